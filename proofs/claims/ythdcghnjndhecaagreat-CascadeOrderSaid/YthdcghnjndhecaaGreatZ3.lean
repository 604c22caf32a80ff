/- The walks, part 3: the evaluator, the functions, the laws. Conditions: none. -/
import Derived.Lib.Index
import Derived.Lib.Strings
import Derived.Test.YthdcghnjndhecaaGreatProg
import Derived.Test.YthdcghnjndhecaaGreatZ2
namespace Go.Proofs.YthdcghnjndhecaaGreat.Ev
set_option linter.unusedVariables false
set_option linter.unusedSimpArgs false
structure At where
 name:ByteArray
 op:Int
 text:ByteArray
mutual
inductive Pt where
 | mk (comb:Int) (c:Cp)
inductive Cp where
 | mk (tag:ByteArray) (ids classes:List ByteArray) (attrs:List At) (pseudos:List Ps)
inductive Ps where
 | mk (kind a b:Int) (list:List (List Pt))
end
def Pt.comb:Pt→Int | .mk k _=>k
def Pt.c:Pt→Cp | .mk _ c=>c
def Cp.tag:Cp→ByteArray | .mk t _ _ _ _=>t
def Cp.ids:Cp→List ByteArray | .mk _ i _ _ _=>i
def Cp.classes:Cp→List ByteArray | .mk _ _ c _ _=>c
def Cp.attrs:Cp→List At | .mk _ _ _ a _=>a
def Cp.pseudos:Cp→List Ps | .mk _ _ _ _ p=>p
def Ps.kind:Ps→Int | .mk k _ _ _=>k
def Ps.a:Ps→Int | .mk _ a _ _=>a
def Ps.b:Ps→Int | .mk _ _ b _=>b
def Ps.list:Ps→List (List Pt) | .mk _ _ _ l=>l
abbrev Sl:=List Pt
structure ST where
 prop:Int
 kind:Int
 n:Int
 imp:Bool
structure RL where
 sels:List Sl
 sets:List ST
structure Nd where
 parent:Int
 tag:ByteArray
 id:ByteArray
 classes:List ByteArray
 attrs:List (ByteArray × ByteArray)
def encAt (a:At):List AV:=[Sx a.name,I a.op,Sx a.text]
def strs (l:List ByteArray):AV:=.imm 1 (l.map fun s=>[Sx s])
mutual
def encPt:Pt→List AV
 | .mk k c=>I k::encCp c
def encCp:Cp→List AV
 | .mk t i c a p=>[Sx t,strs i,strs c,.imm 3 (a.map encAt),.imm 4 (encPss p)]
def encPs:Ps→List AV
 | .mk k a b l=>[I k,I a,I b,.imm 1 (encSls l)]
def encPts:List Pt→List (List AV)
 | []=>[]
 | p::r=>encPt p::encPts r
def encPss:List Ps→List (List AV)
 | []=>[]
 | p::r=>encPs p::encPss r
def encSls:List (List Pt)→List (List AV)
 | []=>[]
 | s::r=>[.imm 6 (encPts s)]::encSls r
end
theorem encPts_map:∀ (l:List Pt),encPts l=l.map encPt
 | []=>rfl
 | p::r=>by rw [encPts,encPts_map r]; rfl
theorem encPss_map:∀ (l:List Ps),encPss l=l.map encPs
 | []=>rfl
 | p::r=>by rw [encPss,encPss_map r]; rfl
def encSl (s:Sl):List AV:=[.imm 6 (s.map encPt)]
theorem encSls_map:∀ (l:List Sl),encSls l=l.map encSl
 | []=>rfl
 | s::r=>by rw [encSls,encSls_map r,encPts_map]; rfl
theorem encPt_eq (p:Pt):encPt p=I p.comb::encCp p.c:=by cases p; rfl
theorem encCp_eq (c:Cp):encCp c=[Sx c.tag,strs c.ids,strs c.classes,.imm 3 (c.attrs.map encAt),.imm 4 (c.pseudos.map encPs)]:=by
 cases c; rw [encCp,encPss_map]; rfl
theorem encPs_eq (p:Ps):encPs p=[I p.kind,I p.a,I p.b,.imm 1 (p.list.map encSl)]:=by
 cases p; rw [encPs,encSls_map]; rfl
@[simp] theorem len_encPt (p:Pt):(encPt p).length=6:=by rw [encPt_eq,encCp_eq]; rfl
@[simp] theorem len_encCp (p:Cp):(encCp p).length=5:=by rw [encCp_eq]; rfl
@[simp] theorem len_encPs (p:Ps):(encPs p).length=4:=by rw [encPs_eq]; rfl
@[simp] theorem len_encSl (p:Sl):(encSl p).length=1:=rfl
@[simp] theorem len_encAt (p:At):(encAt p).length=3:=rfl
def sls (l:List Sl):AV:=.imm 1 (l.map encSl)
def encST (s:ST):List AV:=[I s.prop,I s.kind,I s.n,Bo s.imp]
def encRL (r:RL):List AV:=[sls r.sels,.imm 4 (r.sets.map encST)]
def rls (l:List RL):AV:=.imm 2 (l.map encRL)
def encPr (p:ByteArray × ByteArray):List AV:=[Sx p.1,Sx p.2]
def encNd (n:Nd):List AV:=[I n.parent,Sx n.tag,Sx n.id,strs n.classes,.imm 2 (n.attrs.map encPr)]
def nds (l:List Nd):AV:=.imm 5 (l.map encNd)
theorem noIds_map {α:Type} (f:α→List AV) (hf:∀ x,noIds (f x)=true):∀ l:List α,noIdss (l.map f)=true
 | []=>rfl
 | x::r=>by simp only [List.map_cons,noIdss,hf,noIds_map f hf r,Bool.and_self]
@[simp] theorem noId_strs (l:List ByteArray):noId (strs l)=true:=by
 unfold strs; simp only [noId]; exact noIds_map _ (fun _=>rfl) l
theorem noId_At (a:At):noIds (encAt a)=true:=rfl
mutual
theorem noId_Pt:∀ (p:Pt),noIds (encPt p)=true
 | .mk k c=>by rw [encPt]; simp only [noIds,noId,noId_Cp c,Bool.and_self]
theorem noId_Cp:∀ (c:Cp),noIds (encCp c)=true
 | .mk t i c a p=>by rw [encCp]; simp only [noIds,noId,noId_strs,noIds_map _ noId_At,noId_Pss p,Bool.and_self]
theorem noId_Ps:∀ (p:Ps),noIds (encPs p)=true
 | .mk k a b l=>by rw [encPs]; simp only [noIds,noId,noId_Sls l,Bool.and_self]
theorem noId_Pts:∀ (l:List Pt),noIdss (encPts l)=true
 | []=>rfl
 | p::r=>by rw [encPts]; simp only [noIdss,noId_Pt p,noId_Pts r,Bool.and_self]
theorem noId_Pss:∀ (l:List Ps),noIdss (encPss l)=true
 | []=>rfl
 | p::r=>by rw [encPss]; simp only [noIdss,noId_Ps p,noId_Pss r,Bool.and_self]
theorem noId_Sls:∀ (l:List (List Pt)),noIdss (encSls l)=true
 | []=>rfl
 | s::r=>by rw [encSls]; simp only [noIdss,noIds,noId,noId_Pts s,noId_Sls r,Bool.and_self]
end
theorem noId_Sl (s:Sl):noIds (encSl s)=true:=by
 unfold encSl; rw [← encPts_map]; simp only [noIds,noId,noId_Pts,Bool.and_self]
@[simp] theorem noId_sls (l:List Sl):noId (sls l)=true:=by unfold sls; simp only [noId]; exact noIds_map _ noId_Sl l
theorem noId_ST (s:ST):noIds (encST s)=true:=rfl
theorem noId_RL (r:RL):noIds (encRL r)=true:=by unfold encRL; simp only [noIds,noId,noId_sls,noIds_map _ noId_ST,Bool.and_self]
@[simp] theorem noId_rls (l:List RL):noId (rls l)=true:=by unfold rls; simp only [noId]; exact noIds_map _ noId_RL l
theorem noId_Nd (n:Nd):noIds (encNd n)=true:=by unfold encNd; simp only [noIds,noId,noId_strs,noIds_map encPr (fun _=>rfl),Bool.and_self]
@[simp] theorem noId_nds (l:List Nd):noId (nds l)=true:=by unfold nds; simp only [noId]; exact noIds_map _ noId_Nd l
end Go.Proofs.YthdcghnjndhecaaGreat.Ev
namespace Go.Proofs.YthdcghnjndhecaaGreat.Ev
@[simp] theorem one_strs (l:List ByteArray):AV.one (strs l)=true:=rfl
@[simp] theorem one_Cp (c:Cp):(encCp c).all AV.one=true:=by rw [encCp_eq]; rfl
@[simp] theorem one_Pt (p:Pt):(encPt p).all AV.one=true:=by rw [encPt_eq,List.all_cons,one_Cp]; rfl
@[simp] theorem one_Ps (p:Ps):(encPs p).all AV.one=true:=by rw [encPs_eq]; rfl
@[simp] theorem one_Sl (p:Sl):(encSl p).all AV.one=true:=rfl
@[simp] theorem one_At (p:At):(encAt p).all AV.one=true:=rfl
@[simp] theorem one_RL (p:RL):(encRL p).all AV.one=true:=rfl
@[simp] theorem one_Nd (p:Nd):(encNd p).all AV.one=true:=rfl
@[simp] theorem one_ST (p:ST):(encST p).all AV.one=true:=rfl
@[simp] theorem len_encRL (p:RL):(encRL p).length=2:=rfl
@[simp] theorem len_encNd (p:Nd):(encNd p).length=5:=rfl
@[simp] theorem len_encST (p:ST):(encST p).length=4:=rfl
theorem drop_get {α:Type} {l:List α} {k:Nat} {x:α} (h:l[k]?=some x):l.drop k=x::l.drop (k+1):=by
 obtain ⟨hlt,rfl⟩:=List.getElem?_eq_some_iff.1 h
 exact List.drop_eq_getElem_cons hlt
theorem get_lt {α:Type} {l:List α} {k:Nat} (h:k<l.length):∃ x,l[k]?=some x:=⟨l[k],List.getElem?_eq_getElem h⟩
end Go.Proofs.YthdcghnjndhecaaGreat.Ev
namespace Go.Proofs.YthdcghnjndhecaaGreat.Ev
def i64 (n:Int):Prop:=-9223372036854775808≤n∧n≤9223372036854775807
def strsWf (N:Nat) (l:List ByteArray):Prop:=l.length≤N∧∀ s ∈ l,s.data.size≤N
mutual
def Pt.wf (N:Nat):Pt→Prop
 | .mk k c=>i64 k∧Cp.wf N c
def Cp.wf (N:Nat):Cp→Prop
 | .mk t i c a p=>t.data.size≤N∧strsWf N i∧strsWf N c∧(a.length≤N∧∀ x ∈ a,x.name.data.size≤N∧i64 x.op∧x.text.data.size≤N)∧p.length≤N∧wfPss N p
def Ps.wf (N:Nat):Ps→Prop
 | .mk k a b l=>i64 k∧i64 a∧i64 b∧l.length≤N∧wfSls N l
def wfPts (N:Nat):List Pt→Prop
 | []=>True
 | p::r=>Pt.wf N p∧wfPts N r
def wfPss (N:Nat):List Ps→Prop
 | []=>True
 | p::r=>Ps.wf N p∧wfPss N r
def wfSls (N:Nat):List (List Pt)→Prop
 | []=>True
 | s::r=>(s.length≤N∧wfPts N s)∧wfSls N r
end
theorem wfPts_mem {N:Nat}:∀ {l:List Pt},wfPts N l→∀ p ∈ l,Pt.wf N p
 | p::r,h,q,hq=>by
  rw [wfPts] at h
  rcases List.mem_cons.1 hq with rfl | hq
  ·exact h.1
  ·exact wfPts_mem h.2 q hq
theorem wfPss_mem {N:Nat}:∀ {l:List Ps},wfPss N l→∀ p ∈ l,Ps.wf N p
 | p::r,h,q,hq=>by
  rw [wfPss] at h
  rcases List.mem_cons.1 hq with rfl | hq
  ·exact h.1
  ·exact wfPss_mem h.2 q hq
def slWf (N:Nat) (s:Sl):Prop:=s.length≤N∧∀ p ∈ s,Pt.wf N p
theorem wfSls_mem {N:Nat}:∀ {l:List Sl},wfSls N l→∀ s ∈ l,slWf N s
 | s::r,h,q,hq=>by
  rw [wfSls] at h
  rcases List.mem_cons.1 hq with rfl | hq
  ·exact ⟨h.1.1,wfPts_mem h.1.2⟩
  ·exact wfSls_mem h.2 q hq
theorem wfPts_of {N:Nat}:∀ {l:List Pt},(∀ p ∈ l,Pt.wf N p)→wfPts N l
 | [],_=>by rw [wfPts]; trivial
 | p::r,h=>by rw [wfPts]; exact ⟨h p (by simp),wfPts_of fun q hq=>h q (by simp [hq])⟩
theorem wfPss_of {N:Nat}:∀ {l:List Ps},(∀ p ∈ l,Ps.wf N p)→wfPss N l
 | [],_=>by rw [wfPss]; trivial
 | p::r,h=>by rw [wfPss]; exact ⟨h p (by simp),wfPss_of fun q hq=>h q (by simp [hq])⟩
theorem wfSls_of {N:Nat}:∀ {l:List Sl},(∀ p ∈ l,slWf N p)→wfSls N l
 | [],_=>by rw [wfSls]; trivial
 | p::r,h=>by rw [wfSls]; exact ⟨⟨(h p (by simp)).1,wfPts_of (h p (by simp)).2⟩,wfSls_of fun q hq=>h q (by simp [hq])⟩
def slsWf (N:Nat) (l:List Sl):Prop:=l.length≤N∧∀ s ∈ l,slWf N s
structure CpWf (N:Nat) (c:Cp):Prop where
 tag:c.tag.data.size≤N
 ids:strsWf N c.ids
 classes:strsWf N c.classes
 attrsL:c.attrs.length≤N
 attrs:∀ x ∈ c.attrs,x.name.data.size≤N∧i64 x.op∧x.text.data.size≤N
 psL:c.pseudos.length≤N
 ps:∀ p ∈ c.pseudos,Ps.wf N p
theorem Cp.wf_iff {N:Nat} {c:Cp}:Cp.wf N c ↔ CpWf N c:=by
 cases c
 rw [Cp.wf]
 exact ⟨fun ⟨a,b,c,d,e,f⟩=>⟨a,b,c,d.1,d.2,e,wfPss_mem f⟩,fun ⟨a,b,c,d,d',e,f⟩=>⟨a,b,c,⟨d,d'⟩,e,wfPss_of f⟩⟩
theorem Pt.wf_iff {N:Nat} {p:Pt}:Pt.wf N p ↔ i64 p.comb∧CpWf N p.c:=by
 cases p; rw [Pt.wf,Cp.wf_iff]; rfl
theorem Ps.wf_iff {N:Nat} {p:Ps}:Ps.wf N p ↔ i64 p.kind∧i64 p.a∧i64 p.b∧slsWf N p.list:=by
 cases p; rw [Ps.wf]
 exact ⟨fun ⟨a,b,c,d,e⟩=>⟨a,b,c,d,wfSls_mem e⟩,fun ⟨a,b,c,d⟩=>⟨a,b,c,d.1,wfSls_of d.2⟩⟩
abbrev Lmax:Nat:=9223372036854775807
theorem wr_succL {k n N:Nat} (h:k<n) (hn:n≤N) (hN:N≤Lmax:=by decide):wr .i64 ((k:Int)+1)=((k+1:Nat):Int):=by
 have:Lmax=9223372036854775807:=rfl
 rw [wr64 (by omega) (by omega)]; rfl
end Go.Proofs.YthdcghnjndhecaaGreat.Ev
namespace Go.Proofs.YthdcghnjndhecaaGreat.Ev
@[simp] theorem len_strs (l:List ByteArray):lenSl (strs l)=some (.lit (.int .i64 l.length)):=by simp [strs]
@[simp] theorem len_sls (l:List Sl):lenSl (sls l)=some (.lit (.int .i64 l.length)):=by simp [sls]
@[simp] theorem len_rls (l:List RL):lenSl (rls l)=some (.lit (.int .i64 l.length)):=by simp [rls]
@[simp] theorem len_nds (l:List Nd):lenSl (nds l)=some (.lit (.int .i64 l.length)):=by simp [nds]
end Go.Proofs.YthdcghnjndhecaaGreat.Ev
namespace Go.Proofs.YthdcghnjndhecaaGreat.Ev
@[simp] theorem ldL_sl (s:Sl):ldL true 1 (encSl s)=some (.agg (encSl s)):=rfl
@[simp] theorem ldL_pt (s:Pt):ldL true 6 (encPt s)=some (.agg (encPt s)):=ldL_all (len_encPt s)
@[simp] theorem ldL_cp (s:Cp):ldL true 5 (encCp s)=some (.agg (encCp s)):=ldL_all (len_encCp s)
@[simp] theorem ldL_ps (s:Ps):ldL true 4 (encPs s)=some (.agg (encPs s)):=ldL_all (len_encPs s)
@[simp] theorem ldL_at (s:At):ldL true 3 (encAt s)=some (.agg (encAt s)):=rfl
@[simp] theorem ldL_nd (s:Nd):ldL true 5 (encNd s)=some (.agg (encNd s)):=rfl
@[simp] theorem ldL_rl (s:RL):ldL true 2 (encRL s)=some (.agg (encRL s)):=rfl
@[simp] theorem ldL_st (s:ST):ldL true 4 (encST s)=some (.agg (encST s)):=rfl
@[simp] theorem ldL_pr (s:ByteArray × ByteArray):ldL true 2 (encPr s)=some (.agg (encPr s)):=rfl
@[simp] theorem ov_sl (c:AV) (s:Sl):overlay [c] 0 (encSl s)=encSl s:=rfl
end Go.Proofs.YthdcghnjndhecaaGreat.Ev
namespace Go.Proofs.YthdcghnjndhecaaGreat.Ev
@[simp] theorem tail_encPt (p:Pt):(encPt p).tail=encCp p.c:=by rw [encPt_eq]; rfl
end Go.Proofs.YthdcghnjndhecaaGreat.Ev
namespace Go.Proofs.YthdcghnjndhecaaGreat.Ev
@[simp] theorem f_encPs0 (x:Ps):ldL false 1 (encPs x)=some (I x.kind):=by rw [encPs_eq]; rfl
@[simp] theorem f_encPs1 (x:Ps):ldL false 1 (encPs x).tail=some (I x.a):=by rw [encPs_eq]; rfl
@[simp] theorem f_encPs2 (x:Ps):ldL false 1 ((encPs x).drop 2)=some (I x.b):=by rw [encPs_eq]; rfl
@[simp] theorem f_encPs3 (x:Ps):ldL false 1 ((encPs x).drop 3)=some (.imm 1 (x.list.map encSl)):=by rw [encPs_eq]; rfl
@[simp] theorem f_encCp0 (x:Cp):ldL false 1 (encCp x)=some (Sx x.tag):=by rw [encCp_eq]; rfl
@[simp] theorem f_encCp1 (x:Cp):ldL false 1 (encCp x).tail=some (strs x.ids):=by rw [encCp_eq]; rfl
@[simp] theorem f_encCp2 (x:Cp):ldL false 1 ((encCp x).drop 2)=some (strs x.classes):=by rw [encCp_eq]; rfl
@[simp] theorem f_encCp3 (x:Cp):ldL false 1 ((encCp x).drop 3)=some (.imm 3 (x.attrs.map encAt)):=by rw [encCp_eq]; rfl
@[simp] theorem f_encCp4 (x:Cp):ldL false 1 ((encCp x).drop 4)=some (.imm 4 (x.pseudos.map encPs)):=by rw [encCp_eq]; rfl
@[simp] theorem f_encPt0 (x:Pt):ldL false 1 (encPt x)=some (I x.comb):=by rw [encPt_eq]; rfl
@[simp] theorem f_encSl0 (x:Sl):ldL false 1 (encSl x)=some (.imm 6 (x.map encPt)):=rfl
@[simp] theorem f_encAt0 (x:At):ldL false 1 (encAt x)=some (Sx x.name):=rfl
@[simp] theorem f_encAt1 (x:At):ldL false 1 (encAt x).tail=some (I x.op):=rfl
@[simp] theorem f_encAt2 (x:At):ldL false 1 ((encAt x).drop 2)=some (Sx x.text):=rfl
@[simp] theorem f_encNd0 (x:Nd):ldL false 1 (encNd x)=some (I x.parent):=rfl
@[simp] theorem f_encNd1 (x:Nd):ldL false 1 (encNd x).tail=some (Sx x.tag):=rfl
@[simp] theorem f_encNd2 (x:Nd):ldL false 1 ((encNd x).drop 2)=some (Sx x.id):=rfl
@[simp] theorem f_encNd3 (x:Nd):ldL false 1 ((encNd x).drop 3)=some (strs x.classes):=rfl
@[simp] theorem f_encNd4 (x:Nd):ldL false 1 ((encNd x).drop 4)=some (.imm 2 (x.attrs.map encPr)):=rfl
@[simp] theorem f_encRL0 (x:RL):ldL false 1 (encRL x)=some (sls x.sels):=rfl
@[simp] theorem f_encRL1 (x:RL):ldL false 1 (encRL x).tail=some (.imm 4 (x.sets.map encST)):=rfl
@[simp] theorem f_encST0 (x:ST):ldL false 1 (encST x)=some (I x.prop):=rfl
@[simp] theorem f_encST1 (x:ST):ldL false 1 (encST x).tail=some (I x.kind):=rfl
@[simp] theorem f_encST2 (x:ST):ldL false 1 ((encST x).drop 2)=some (I x.n):=rfl
@[simp] theorem f_encST3 (x:ST):ldL false 1 ((encST x).drop 3)=some (Bo x.imp):=rfl
@[simp] theorem f_encPr0 (x:ByteArray × ByteArray):ldL false 1 (encPr x)=some (Sx x.1):=rfl
@[simp] theorem f_encPr1 (x:ByteArray × ByteArray):ldL false 1 (encPr x).tail=some (Sx x.2):=rfl
theorem ov_Ps {l:List AV} (x:Ps) (h:l.length=4):overlay l 0 (encPs x)=encPs x:=overlay_all (by rw [len_encPs,h])
theorem ov_Pt {l:List AV} (x:Pt) (h:l.length=6):overlay l 0 (encPt x)=encPt x:=overlay_all (by rw [len_encPt,h])
end Go.Proofs.YthdcghnjndhecaaGreat.Ev
namespace Go.Proofs.YthdcghnjndhecaaGreat.Ev
set_option linter.unusedVariables false
set_option linter.unusedSimpArgs false
theorem flat_drop {sz:Nat}:∀ {rows:List (List AV)} {w:Nat} (hs:∀ r ∈ rows,r.length=sz) (h:w<rows.length),rows.flatten.drop (w*sz)=rows[w]++(rows.drop (w+1)).flatten
 | r::rs,0,hs,h=>by simp
 | r::rs,w+1,hs,h=>by
  have hr:r.length=sz:=hs r (by simp)
  have e:(w+1)*sz=sz+w*sz:=by rw [Nat.succ_mul,Nat.add_comm]
  have e1:(r++rs.flatten).drop sz=rs.flatten:=by rw [← hr]; simp
  rw [List.flatten_cons,e,← List.drop_drop,e1]
  exact flat_drop (fun r hr=>hs r (by simp [hr])) (by simpa using h)
theorem overlay_app_right {a b:List AV} {k:Nat} {xs:List AV}:overlay (a++b) (a.length+k) xs=a++overlay b k xs:=by
 unfold overlay
 rw [Nat.add_assoc,List.take_append,List.drop_append,List.take_of_length_le (by omega),List.drop_eq_nil_of_le (by omega)]
 simp
theorem overlay_app_left {a b:List AV} {k:Nat} {xs:List AV} (h:k+xs.length≤a.length):overlay (a++b) k xs=overlay a k xs++b:=by
 unfold overlay
 rw [List.take_append_of_le_length (by omega),List.drop_append_of_le_length h]
 simp
theorem flat_overlay {sz:Nat} {xs:List AV} {k:Nat} (hk:k+xs.length≤sz):∀ {rows:List (List AV)} {w:Nat} (hs:∀ r ∈ rows,r.length=sz) (h:w<rows.length),overlay rows.flatten (w*sz+k) xs=(rows.set w (overlay rows[w] k xs)).flatten
 | r::rs,0,hs,h=>by
  have hr:r.length=sz:=hs r (by simp)
  simp only [Nat.zero_mul,Nat.zero_add,List.flatten_cons,List.getElem_cons_zero,List.set_cons_zero]
  exact overlay_app_left (by omega)
 | r::rs,w+1,hs,h=>by
  have hr:r.length=sz:=hs r (by simp)
  have e:(w+1)*sz+k=r.length+(w*sz+k):=by rw [Nat.succ_mul,hr]; omega
  simp only [List.flatten_cons,List.getElem_cons_succ,List.set_cons_succ]
  rw [e,overlay_app_right,flat_overlay hk (fun r hr=>hs r (by simp [hr])) (by simpa using h)]
end Go.Proofs.YthdcghnjndhecaaGreat.Ev
namespace Go.Proofs.YthdcghnjndhecaaGreat.Ev
set_option linter.unusedVariables false
set_option linter.unusedSimpArgs false
def Nd.none:Nd:=⟨0,⟨#[]⟩,⟨#[]⟩,[],[]⟩
def ndAt (L:List Nd) (i:Nat):Nd:=L.getD i Nd.none
def par (L:List Nd) (i:Nat):Int:=(ndAt L i).parent
def kids (L:List Nd) (m e:Nat):List Nat:=(List.range m).filter fun j=>decide (0<j)&&decide (par L j=e)
def sibs (L:List Nd) (e:Nat):List Nat:=(List.range e).filter fun j=>decide (0<j)&&decide (par L j=par L e)
def lastI (l:List Nat):Int:=match l.getLast? with | some j=>j | none=>-1
def place (L:List Nd) (e:Nat):Int:=(sibs L e).length+1
def before (L:List Nd) (e:Nat):Int:=lastI (sibs L e)
structure Built (L:List Nd) (m:Nat) (d:List Nat):Prop where
 len:d.length=m
 le:m≤L.length
 root:0<m→par L 0=-1∧d[0]?=some 0
 step:∀ i,0<i→i<m→∃ p x:Nat,par L i=p∧p<i∧d[p]?=some x∧d[i]?=some (x+1)∧x+1≤256
theorem Built.nil (L:List Nd):Built L 0 []:=⟨rfl,Nat.zero_le _,fun h=>absurd h (Nat.lt_irrefl 0),fun i h0 h=>absurd h (Nat.not_lt_zero i)⟩
theorem Built.first {L:List Nd} (hl:0<L.length) (h:par L 0=-1):Built L 1 [0]:=⟨rfl,hl,fun _=>⟨h,rfl⟩,fun i h0 h=>by omega⟩
theorem Built.next {L:List Nd} {m p x:Nat} {d:List Nat} (h:Built L m d) (hm:0<m) (hl:m<L.length) (hp:par L m=p) (hlt:p<m) (hx:d[p]?=some x) (h256:x+1≤256):Built L (m+1) (d++[x+1]):=by
 have hlen:=h.len
 refine ⟨by simp [hlen],hl,fun _=>⟨(h.root hm).1,?_⟩,fun i h0 hi=>?_⟩
 ·rw [List.getElem?_append_left (by omega)]; exact (h.root hm).2
 ·by_cases him:i<m
  ·obtain ⟨p',x',e1,e2,e3,e4,e5⟩:=h.step i h0 him
   exact ⟨p',x',e1,e2,by rw [List.getElem?_append_left (by omega)]; exact e3,by rw [List.getElem?_append_left (by omega)]; exact e4,e5⟩
  ·have:i=m:=by omega
   subst this
   exact ⟨p,x,hp,hlt,by rw [List.getElem?_append_left (by omega)]; exact hx,by rw [List.getElem?_append_right (by omega),hlen]; simp,h256⟩
theorem kids_succ (L:List Nd) (m e:Nat):kids L (m+1) e=kids L m e++if 0<m∧par L m=e then [m] else []:=by
 unfold kids
 rw [List.range_succ,List.filter_append]
 congr 1
 by_cases h:0<m∧par L m=(e:Int)
 ·simp [h]
 ·rw [if_neg h]
  simp only [List.filter_cons,List.filter_nil]
  rw [if_neg (by simpa using h)]
theorem kids_self {L:List Nd} {m p:Nat} (hp:par L m=p):kids L m p=sibs L m:=by unfold kids sibs; rw [hp]
theorem kids_ge {L:List Nd} {N:Nat} {d:List Nat} (hB:Built L N d) {m:Nat} (hm:m≤N) {e:Nat} (he:m≤e+1):kids L m e=[]:=by
 unfold kids
 rw [List.filter_eq_nil_iff]
 intro j hj
 simp only [List.mem_range] at hj
 simp only [Bool.and_eq_true,decide_eq_true_eq,not_and]
 intro h0 h1
 obtain ⟨p,x,e1,e2,_⟩:=hB.step j h0 (by omega)
 rw [e1] at h1
 omega
def rowE (L:List Nd) (d:List Nat) (i:Nat) (c:AV) (low:Nd→Nd):List AV:=encNd (low (ndAt L i))++[c,I (d.getD i 0),I (place L i),I (before L i)]
@[simp] theorem len_rowE (L:List Nd) (d:List Nat) (i:Nat) (c:AV) (low:Nd→Nd):(rowE L d i c low).length=9:=rfl
def rowsE (L:List Nd) (d:List Nat) (ch:List AV) (low:Nd→Nd):List (List AV):=ch.mapIdx fun i c=>rowE L d i c low
theorem rowsE_len (L:List Nd) (d:List Nat) (ch:List AV) (low:Nd→Nd):(rowsE L d ch low).length=ch.length:=by simp [rowsE]
theorem rowsE_sz {L:List Nd} {d:List Nat} {ch:List AV} {low:Nd→Nd}:∀ row ∈ rowsE L d ch low,row.length=9:=by
 intro row h
 unfold rowsE at h
 obtain ⟨i,hi,rfl⟩:=List.mem_mapIdx.1 h
 rfl
theorem rowsE_get {L:List Nd} {d:List Nat} {ch:List AV} {low:Nd→Nd} {k:Nat} {c:AV} (h:ch[k]?=some c):(rowsE L d ch low)[k]?=some (rowE L d k c low):=by
 unfold rowsE
 rw [List.getElem?_mapIdx,h]; rfl
theorem rowsE_set {L:List Nd} {d:List Nat} {ch:List AV} {low:Nd→Nd} {k:Nat} {c':AV}:rowsE L d (ch.set k c') low=(rowsE L d ch low).set k (rowE L d k c' low):=by
 apply List.ext_getElem?
 intro i
 unfold rowsE
 rw [List.getElem?_mapIdx,List.getElem?_set,List.getElem?_set,List.getElem?_mapIdx]
 by_cases hi:k=i
 ·subst hi
  simp only [if_true,List.length_mapIdx]
  by_cases hk:k<ch.length
  ·simp [hk]
  ·simp [hk]
 ·simp [hi]
theorem rowsE_app {L:List Nd} {d:List Nat} {ch:List AV} {low:Nd→Nd} {c:AV}:rowsE L d (ch++[c]) low=rowsE L d ch low++[rowE L d ch.length c low]:=by
 simp [rowsE,List.mapIdx_append]
theorem rowsE_drop {L:List Nd} {d:List Nat} {ch:List AV} {low:Nd→Nd} {k:Nat} {c:AV} (h:ch[k]?=some c):∃ r,(rowsE L d ch low).flatten.drop (k*9)=rowE L d k c low++r:=by
 have hk:=(List.getElem?_eq_some_iff.1 h).1
 have e:=rowsE_get (L:=L) (d:=d) (low:=low) h
 have hk':k<(rowsE L d ch low).length:=by rw [rowsE_len]; exact hk
 refine ⟨((rowsE L d ch low).drop (k+1)).flatten,?_⟩
 rw [flat_drop rowsE_sz hk']
 congr 1
 rw [List.getElem?_eq_getElem hk'] at e
 exact Option.some.inj e
theorem rowsE_dropJ {L:List Nd} {d:List Nat} {ch:List AV} {low:Nd→Nd} {k:Nat} {c:AV} (h:ch[k]?=some c) (j:Nat) (hj:j≤9):∃ r,(rowsE L d ch low).flatten.drop (k*9+j)=(rowE L d k c low).drop j++r:=by
 obtain ⟨r,e⟩:=rowsE_drop (L:=L) (d:=d) (low:=low) h
 refine ⟨r,?_⟩
 rw [← List.drop_drop,e,List.drop_append_of_le_length (by simpa using hj)]
theorem rowsE_put {L:List Nd} {d:List Nat} {ch:List AV} {low:Nd→Nd} {k:Nat} {c c':AV} (h:ch[k]?=some c):overlay (rowsE L d ch low).flatten (k*9+5) [c']=(rowsE L d (ch.set k c') low).flatten:=by
 have hk:=(List.getElem?_eq_some_iff.1 h).1
 have hk':k<(rowsE L d ch low).length:=by rw [rowsE_len]; exact hk
 rw [flat_overlay (sz:=9) (by simp) rowsE_sz hk',rowsE_set]
 congr 2
 have e:=rowsE_get (L:=L) (d:=d) (low:=low) h
 rw [List.getElem?_eq_getElem hk'] at e
 rw [Option.some.inj e]
 rfl
end Go.Proofs.YthdcghnjndhecaaGreat.Ev
namespace Go.Proofs.YthdcghnjndhecaaGreat.Ev
set_option linter.unusedVariables false
set_option linter.unusedSimpArgs false
abbrev tl (s:ByteArray):List UInt8:=s.data.toList
def mk (l:List UInt8):ByteArray:=⟨l.toArray⟩
@[simp] theorem tl_mk (l:List UInt8):tl (mk l)=l:=by simp [tl,mk]
@[simp] theorem mk_tl (s:ByteArray):mk (tl s)=s:=by simp [tl,mk]
theorem mk_inj {a b:List UInt8} (h:mk a=mk b):a=b:=by rw [← tl_mk a,h,tl_mk]
theorem tl_len (s:ByteArray):(tl s).length=s.data.size:=by simp [tl]
theorem mk_size (l:List UInt8):(mk l).data.size=l.length:=by simp [mk]
theorem ix_str {s:ByteArray} {k:Nat} {c:UInt8} (h:(tl s)[k]?=some c):ixStr (Sx s) (I (k:Int))=some (.lit (.int .u8 c.toNat)):=by
 simp only [ixStr,intA]
 simp [h]
theorem sl_str0 {s:ByteArray} {b:Nat} (h2:b≤s.data.size):slStr (Sx s) none (some (I (b:Int)))=some (Sx (mk ((tl s).take b))):=by
 have h3:b≤s.size:=h2
 simp [slStr,intO,intA,boundsA,boundA,extractS,mk,tl,h3]
theorem sl_strE {s:ByteArray} {a:Nat} (h1:a≤s.data.size):slStr (Sx s) (some (I (a:Int))) none=some (Sx (mk ((tl s).drop a))):=by
 have h3:a≤s.size:=h1
 simp [slStr,intO,intA,boundsA,boundA,extractS,mk,tl,h3]
 exact List.take_of_length_le (by simp)
theorem b_sadd {a b:ByteArray} (h:a.data.size+b.data.size≤9223372036854775807):binR .add (Sx a) (Sx b)=some (Sx (mk (tl a++tl b))):=by
 have e:a.data++b.data=(a.data.toList++b.data.toList).toArray:=by
  apply Array.ext'
  simp
 have h3:a.size+b.size≤9223372036854775807:=h
 simp [binR,lit?,sbin,bleN,h3,mk,tl,e]
def preB (s p:List UInt8):Bool:=p.isPrefixOf s
def sufB (s p:List UInt8):Bool:=p.isSuffixOf s
theorem pre_take (s p:List UInt8) (h:p.length≤s.length):decide (mk (s.take p.length)=mk p)=preB s p:=by
 have:=Go.Lib.hasPrefix_of_take s p
 simp only [h,decide_true,Bool.true_and,Go.Lib.hasPrefix] at this
 unfold preB
 rw [← this]
 by_cases e:s.take p.length=p
 ·simp [e]
 ·have:¬ (mk (s.take p.length)=mk p):=fun h=>e (mk_inj h)
  simp [e,this]
theorem suf_drop (s p:List UInt8) (h:p.length≤s.length):decide (mk (s.drop (s.length - p.length))=mk p)=sufB s p:=by
 have:=Go.Lib.hasSuffix_of_drop s p
 simp only [h,decide_true,Bool.true_and,Go.Lib.hasSuffix] at this
 unfold sufB
 rw [← this]
 by_cases e:s.drop (s.length - p.length)=p
 ·simp [e]
 ·have:¬ (mk (s.drop (s.length - p.length))=mk p):=fun h=>e (mk_inj h)
  simp [e,this]
theorem pre_long {s p:List UInt8} (h:s.length<p.length):preB s p=false:=by
 have:=Go.Lib.hasPrefix_of_take s p
 rw [show decide (p.length≤s.length)=false by simp; omega] at this
 simpa [preB,Go.Lib.hasPrefix] using this.symm
theorem suf_long {s p:List UInt8} (h:s.length<p.length):sufB s p=false:=by
 have:=Go.Lib.hasSuffix_of_drop s p
 rw [show decide (p.length≤s.length)=false by simp; omega] at this
 simpa [sufB,Go.Lib.hasSuffix] using this.symm
def wht (c:UInt8):Bool:=c.toNat == 9||(c.toNat == 10||(c.toNat == 12||(c.toNat == 13||c.toNat == 32)))
def nw (c:UInt8):Bool:=!wht c
def wl (l:List UInt8):Nat:=(l.takeWhile nw).length
theorem wl_le:∀ (l:List UInt8),wl l≤l.length
 | []=>Nat.le_refl _
 | c::l=>by
  unfold wl
  rw [List.takeWhile_cons]
  split
  ·have:=wl_le l; unfold wl at this; simp; exact this
  ·simp
theorem wl_lt:∀ {l:List UInt8} {k:Nat},k<wl l→∃ c,l[k]?=some c∧wht c=false
 | [],k,h=>by simp [wl] at h
 | c::l,k,h=>by
  unfold wl at h
  rw [List.takeWhile_cons] at h
  split at h
  ·rename_i hc
   cases k with
   | zero=>exact ⟨c,rfl,by simpa [nw] using hc⟩
   | succ k=>exact wl_lt (l:=l) (by unfold wl; simpa using h)
  ·simp at h
theorem wl_at:∀ {l:List UInt8} {c:UInt8},l[wl l]?=some c→wht c=true
 | [],c,h=>by simp at h
 | d::l,c,h=>by
  unfold wl at h
  rw [List.takeWhile_cons] at h
  split at h
  ·exact wl_at (l:=l) (by unfold wl; simpa using h)
  ·rename_i hc
   simp at h
   subst h
   simpa [nw] using hc
def wordsF:Nat→List UInt8→List (List UInt8)
 | 0,_=>[]
 | f+1,l=>if l=[] then [] else if wl l=0 then wordsF f (l.drop 1) else l.take (wl l)::wordsF f (l.drop (wl l+1))
theorem wordsF_eq:∀ (f g:Nat) (l:List UInt8),l.length<f→l.length<g→wordsF f l=wordsF g l
 | 0,g,l,h,_=>by omega
 | f+1,0,l,_,h=>by omega
 | f+1,g+1,l,h1,h2=>by
  unfold wordsF
  by_cases hl:l=[]
  ·rw [if_pos hl,if_pos hl]
  ·have hpos:0<l.length:=List.length_pos_iff.2 hl
   rw [if_neg hl,if_neg hl,wordsF_eq f g (l.drop 1) (by simp; omega) (by simp; omega),wordsF_eq f g (l.drop (wl l+1)) (by simp; omega) (by simp; omega)]
def wordsB (l:List UInt8):List (List UInt8):=wordsF (l.length+1) l
theorem wordsB_nil:wordsB []=[]:=rfl
theorem wordsB_eq {l:List UInt8} (hl:l≠[]):wordsB l=if wl l=0 then wordsB (l.drop 1) else l.take (wl l)::wordsB (l.drop (wl l+1)):=by
 have hpos:0<l.length:=List.length_pos_iff.2 hl
 show wordsF (l.length+1) l=_
 unfold wordsF
 rw [if_neg hl]
 unfold wordsB
 rw [wordsF_eq l.length ((l.drop 1).length+1) (l.drop 1) (by simp; omega) (by simp),wordsF_eq l.length ((l.drop (wl l+1)).length+1) (l.drop (wl l+1)) (by simp; omega) (by simp)]
end Go.Proofs.YthdcghnjndhecaaGreat.Ev
namespace Go.Proofs.YthdcghnjndhecaaGreat.Ev
set_option maxRecDepth 100000
set_option maxHeartbeats 4000000
noncomputable def ti1:TI:=⟨.func,1,8,[.nilFunc]⟩
theorem ti1_ok:tiOf Tryz.prog 1=some ti1:=by kernel_rfl
noncomputable def ti2:TI:=⟨.int .i64,1,8,[.int .i64 0]⟩
theorem ti2_ok:tiOf Tryz.prog 2=some ti2:=by kernel_rfl
noncomputable def ti3:TI:=⟨.int .i64,1,8,[.int .i64 0]⟩
theorem ti3_ok:tiOf Tryz.prog 3=some ti3:=by kernel_rfl
noncomputable def ti4:TI:=⟨.bool,1,1,[.bool false]⟩
theorem ti4_ok:tiOf Tryz.prog 4=some ti4:=by kernel_rfl
noncomputable def ti5:TI:=⟨.int .u8,1,1,[.int .u8 0]⟩
theorem ti5_ok:tiOf Tryz.prog 5=some ti5:=by kernel_rfl
noncomputable def ti6:TI:=⟨.int .u8,1,1,[.int .u8 0]⟩
theorem ti6_ok:tiOf Tryz.prog 6=some ti6:=by kernel_rfl
noncomputable def ti7:TI:=⟨.struct [(0,2),(1,3),(2,4),(3,6)],4,24,[.int .i64 0,.int .i64 0,.bool false,.int .u8 0]⟩
theorem ti7_ok:tiOf Tryz.prog 7=some ti7:=by kernel_rfl
noncomputable def ti8:TI:=⟨.struct [(0,2),(1,3),(2,4),(3,6)],4,24,[.int .i64 0,.int .i64 0,.bool false,.int .u8 0]⟩
theorem ti8_ok:tiOf Tryz.prog 8=some ti8:=by kernel_rfl
noncomputable def ti9:TI:=⟨.string,1,16,[.string ⟨#[]⟩]⟩
theorem ti9_ok:tiOf Tryz.prog 9=some ti9:=by kernel_rfl
noncomputable def ti10:TI:=⟨.string,1,16,[.string ⟨#[]⟩]⟩
theorem ti10_ok:tiOf Tryz.prog 10=some ti10:=by kernel_rfl
noncomputable def ti11:TI:=⟨.string,1,16,[.string ⟨#[]⟩]⟩
theorem ti11_ok:tiOf Tryz.prog 11=some ti11:=by kernel_rfl
noncomputable def ti12:TI:=⟨.int .u64,1,8,[.int .u64 0]⟩
theorem ti12_ok:tiOf Tryz.prog 12=some ti12:=by kernel_rfl
noncomputable def ti13:TI:=⟨.struct [(0,9),(1,12)],2,24,[.string ⟨#[]⟩,.int .u64 0]⟩
theorem ti13_ok:tiOf Tryz.prog 13=some ti13:=by kernel_rfl
noncomputable def ti14:TI:=⟨.struct [(0,9),(1,12)],2,24,[.string ⟨#[]⟩,.int .u64 0]⟩
theorem ti14_ok:tiOf Tryz.prog 14=some ti14:=by kernel_rfl
noncomputable def ti15:TI:=⟨.ptr 262,1,8,[.pointer none]⟩
theorem ti15_ok:tiOf Tryz.prog 15=some ti15:=by kernel_rfl
noncomputable def ti16:TI:=⟨.ptr 265,1,8,[.pointer none]⟩
theorem ti16_ok:tiOf Tryz.prog 16=some ti16:=by kernel_rfl
noncomputable def ti17:TI:=⟨.ptr 273,1,8,[.pointer none]⟩
theorem ti17_ok:tiOf Tryz.prog 17=some ti17:=by kernel_rfl
noncomputable def ti18:TI:=⟨.struct [(0,17)],1,8,[.pointer none]⟩
theorem ti18_ok:tiOf Tryz.prog 18=some ti18:=by kernel_rfl
noncomputable def ti19:TI:=⟨.struct [(0,17)],1,8,[.pointer none]⟩
theorem ti19_ok:tiOf Tryz.prog 19=some ti19:=by kernel_rfl
noncomputable def ti21:TI:=⟨.int .i32,1,4,[.int .i32 0]⟩
theorem ti21_ok:tiOf Tryz.prog 21=some ti21:=by kernel_rfl
noncomputable def ti22:TI:=⟨.slice 41,1,24,[.slice none 0 0]⟩
theorem ti22_ok:tiOf Tryz.prog 22=some ti22:=by kernel_rfl
noncomputable def ti23:TI:=⟨.slice 49,1,24,[.slice none 0 0]⟩
theorem ti23_ok:tiOf Tryz.prog 23=some ti23:=by kernel_rfl
noncomputable def ti24:TI:=⟨.func,1,8,[.nilFunc]⟩
theorem ti24_ok:tiOf Tryz.prog 24=some ti24:=by kernel_rfl
noncomputable def ti25:TI:=⟨.func,1,8,[.nilFunc]⟩
theorem ti25_ok:tiOf Tryz.prog 25=some ti25:=by kernel_rfl
noncomputable def ti26:TI:=⟨.ptr 92,1,8,[.pointer none]⟩
theorem ti26_ok:tiOf Tryz.prog 26=some ti26:=by kernel_rfl
noncomputable def ti27:TI:=⟨.ptr 113,1,8,[.pointer none]⟩
theorem ti27_ok:tiOf Tryz.prog 27=some ti27:=by kernel_rfl
noncomputable def ti29:TI:=⟨.func,1,8,[.nilFunc]⟩
theorem ti29_ok:tiOf Tryz.prog 29=some ti29:=by kernel_rfl
noncomputable def ti30:TI:=⟨.struct [(0,3),(1,3)],2,16,[.int .i64 0,.int .i64 0]⟩
theorem ti30_ok:tiOf Tryz.prog 30=some ti30:=by kernel_rfl
noncomputable def ti31:TI:=⟨.struct [(0,3),(1,3)],2,16,[.int .i64 0,.int .i64 0]⟩
theorem ti31_ok:tiOf Tryz.prog 31=some ti31:=by kernel_rfl
noncomputable def ti32:TI:=⟨.array 8 31,16,128,[.int .i64 0,.int .i64 0,.int .i64 0,.int .i64 0,.int .i64 0,.int .i64 0,.int .i64 0,.int .i64 0,.int .i64 0,.int .i64 0,.int .i64 0,.int .i64 0,.int .i64 0,.int .i64 0,.int .i64 0,.int .i64 0]⟩
theorem ti32_ok:tiOf Tryz.prog 32=some ti32:=by kernel_rfl
noncomputable def ti33:TI:=⟨.func,1,8,[.nilFunc]⟩
theorem ti33_ok:tiOf Tryz.prog 33=some ti33:=by kernel_rfl
noncomputable def ti34:TI:=⟨.func,1,8,[.nilFunc]⟩
theorem ti34_ok:tiOf Tryz.prog 34=some ti34:=by kernel_rfl
noncomputable def ti35:TI:=⟨.func,1,8,[.nilFunc]⟩
theorem ti35_ok:tiOf Tryz.prog 35=some ti35:=by kernel_rfl
noncomputable def ti36:TI:=⟨.struct [(0,3),(1,31),(3,4)],4,32,[.int .i64 0,.int .i64 0,.int .i64 0,.bool false]⟩
theorem ti36_ok:tiOf Tryz.prog 36=some ti36:=by kernel_rfl
noncomputable def ti37:TI:=⟨.struct [(0,3),(1,31),(3,4)],4,32,[.int .i64 0,.int .i64 0,.int .i64 0,.bool false]⟩
theorem ti37_ok:tiOf Tryz.prog 37=some ti37:=by kernel_rfl
noncomputable def ti38:TI:=⟨.slice 9,1,24,[.slice none 0 0]⟩
theorem ti38_ok:tiOf Tryz.prog 38=some ti38:=by kernel_rfl
noncomputable def ti39:TI:=⟨.slice 126,1,24,[.slice none 0 0]⟩
theorem ti39_ok:tiOf Tryz.prog 39=some ti39:=by kernel_rfl
noncomputable def ti40:TI:=⟨.struct [(0,3),(1,9),(2,9),(3,38),(4,39)],5,88,[.int .i64 0,.string ⟨#[]⟩,.string ⟨#[]⟩,.slice none 0 0,.slice none 0 0]⟩
theorem ti40_ok:tiOf Tryz.prog 40=some ti40:=by kernel_rfl
noncomputable def ti41:TI:=⟨.struct [(0,3),(1,9),(2,9),(3,38),(4,39)],5,88,[.int .i64 0,.string ⟨#[]⟩,.string ⟨#[]⟩,.slice none 0 0,.slice none 0 0]⟩
theorem ti41_ok:tiOf Tryz.prog 41=some ti41:=by kernel_rfl
noncomputable def ti42:TI:=⟨.int .i64,1,8,[.int .i64 0]⟩
theorem ti42_ok:tiOf Tryz.prog 42=some ti42:=by kernel_rfl
noncomputable def ti44:TI:=⟨.func,1,8,[.nilFunc]⟩
theorem ti44_ok:tiOf Tryz.prog 44=some ti44:=by kernel_rfl
noncomputable def ti45:TI:=⟨.slice 61,1,24,[.slice none 0 0]⟩
theorem ti45_ok:tiOf Tryz.prog 45=some ti45:=by kernel_rfl
noncomputable def ti46:TI:=⟨.func,1,8,[.nilFunc]⟩
theorem ti46_ok:tiOf Tryz.prog 46=some ti46:=by kernel_rfl
noncomputable def ti47:TI:=⟨.slice 37,1,24,[.slice none 0 0]⟩
theorem ti47_ok:tiOf Tryz.prog 47=some ti47:=by kernel_rfl
noncomputable def ti48:TI:=⟨.struct [(0,45),(1,47)],2,48,[.slice none 0 0,.slice none 0 0]⟩
theorem ti48_ok:tiOf Tryz.prog 48=some ti48:=by kernel_rfl
noncomputable def ti49:TI:=⟨.struct [(0,45),(1,47)],2,48,[.slice none 0 0,.slice none 0 0]⟩
theorem ti49_ok:tiOf Tryz.prog 49=some ti49:=by kernel_rfl
noncomputable def ti50:TI:=⟨.func,1,8,[.nilFunc]⟩
theorem ti50_ok:tiOf Tryz.prog 50=some ti50:=by kernel_rfl
noncomputable def ti51:TI:=⟨.func,1,8,[.nilFunc]⟩
theorem ti51_ok:tiOf Tryz.prog 51=some ti51:=by kernel_rfl
noncomputable def ti52:TI:=⟨.func,1,8,[.nilFunc]⟩
theorem ti52_ok:tiOf Tryz.prog 52=some ti52:=by kernel_rfl
noncomputable def ti53:TI:=⟨.slice 215,1,24,[.slice none 0 0]⟩
theorem ti53_ok:tiOf Tryz.prog 53=some ti53:=by kernel_rfl
noncomputable def ti54:TI:=⟨.slice 167,1,24,[.slice none 0 0]⟩
theorem ti54_ok:tiOf Tryz.prog 54=some ti54:=by kernel_rfl
noncomputable def ti55:TI:=⟨.struct [(0,9),(1,38),(2,38),(3,53),(4,54)],5,112,[.string ⟨#[]⟩,.slice none 0 0,.slice none 0 0,.slice none 0 0,.slice none 0 0]⟩
theorem ti55_ok:tiOf Tryz.prog 55=some ti55:=by kernel_rfl
noncomputable def ti56:TI:=⟨.struct [(0,9),(1,38),(2,38),(3,53),(4,54)],5,112,[.string ⟨#[]⟩,.slice none 0 0,.slice none 0 0,.slice none 0 0,.slice none 0 0]⟩
theorem ti56_ok:tiOf Tryz.prog 56=some ti56:=by kernel_rfl
noncomputable def ti57:TI:=⟨.struct [(0,3),(1,56)],6,120,[.int .i64 0,.string ⟨#[]⟩,.slice none 0 0,.slice none 0 0,.slice none 0 0,.slice none 0 0]⟩
theorem ti57_ok:tiOf Tryz.prog 57=some ti57:=by kernel_rfl
noncomputable def ti58:TI:=⟨.struct [(0,3),(1,56)],6,120,[.int .i64 0,.string ⟨#[]⟩,.slice none 0 0,.slice none 0 0,.slice none 0 0,.slice none 0 0]⟩
theorem ti58_ok:tiOf Tryz.prog 58=some ti58:=by kernel_rfl
noncomputable def ti59:TI:=⟨.slice 58,1,24,[.slice none 0 0]⟩
theorem ti59_ok:tiOf Tryz.prog 59=some ti59:=by kernel_rfl
noncomputable def ti60:TI:=⟨.struct [(0,59)],1,24,[.slice none 0 0]⟩
theorem ti60_ok:tiOf Tryz.prog 60=some ti60:=by kernel_rfl
noncomputable def ti61:TI:=⟨.struct [(0,59)],1,24,[.slice none 0 0]⟩
theorem ti61_ok:tiOf Tryz.prog 61=some ti61:=by kernel_rfl
noncomputable def ti62:TI:=⟨.func,1,8,[.nilFunc]⟩
theorem ti62_ok:tiOf Tryz.prog 62=some ti62:=by kernel_rfl
noncomputable def ti63:TI:=⟨.slice 3,1,24,[.slice none 0 0]⟩
theorem ti63_ok:tiOf Tryz.prog 63=some ti63:=by kernel_rfl
noncomputable def ti64:TI:=⟨.ptr 104,1,8,[.pointer none]⟩
theorem ti64_ok:tiOf Tryz.prog 64=some ti64:=by kernel_rfl
noncomputable def ti65:TI:=⟨.func,1,8,[.nilFunc]⟩
theorem ti65_ok:tiOf Tryz.prog 65=some ti65:=by kernel_rfl
noncomputable def ti66:TI:=⟨.array 1024 5,1024,1024,(List.replicate 1024 (.int .u8 0))⟩
theorem ti66_ok:tiOf Tryz.prog 66=some ti66:=by kernel_rfl
noncomputable def ti67:TI:=⟨.struct [(0,66)],1024,1024,(List.replicate 1024 (.int .u8 0))⟩
theorem ti67_ok:tiOf Tryz.prog 67=some ti67:=by kernel_rfl
noncomputable def ti68:TI:=⟨.struct [(0,66)],1024,1024,(List.replicate 1024 (.int .u8 0))⟩
theorem ti68_ok:tiOf Tryz.prog 68=some ti68:=by kernel_rfl
noncomputable def ti69:TI:=⟨.func,1,8,[.nilFunc]⟩
theorem ti69_ok:tiOf Tryz.prog 69=some ti69:=by kernel_rfl
noncomputable def ti70:TI:=⟨.func,1,8,[.nilFunc]⟩
theorem ti70_ok:tiOf Tryz.prog 70=some ti70:=by kernel_rfl
noncomputable def ti71:TI:=⟨.func,1,8,[.nilFunc]⟩
theorem ti71_ok:tiOf Tryz.prog 71=some ti71:=by kernel_rfl
noncomputable def ti72:TI:=⟨.func,1,8,[.nilFunc]⟩
theorem ti72_ok:tiOf Tryz.prog 72=some ti72:=by kernel_rfl
noncomputable def ti73:TI:=⟨.func,1,8,[.nilFunc]⟩
theorem ti73_ok:tiOf Tryz.prog 73=some ti73:=by kernel_rfl
noncomputable def ti74:TI:=⟨.ptr 68,1,8,[.pointer none]⟩
theorem ti74_ok:tiOf Tryz.prog 74=some ti74:=by kernel_rfl
noncomputable def ti75:TI:=⟨.func,1,8,[.nilFunc]⟩
theorem ti75_ok:tiOf Tryz.prog 75=some ti75:=by kernel_rfl
noncomputable def ti76:TI:=⟨.func,1,8,[.nilFunc]⟩
theorem ti76_ok:tiOf Tryz.prog 76=some ti76:=by kernel_rfl
noncomputable def ti77:TI:=⟨.slice 5,1,24,[.slice none 0 0]⟩
theorem ti77_ok:tiOf Tryz.prog 77=some ti77:=by kernel_rfl
noncomputable def ti78:TI:=⟨.func,1,8,[.nilFunc]⟩
theorem ti78_ok:tiOf Tryz.prog 78=some ti78:=by kernel_rfl
noncomputable def ti79:TI:=⟨.func,1,8,[.nilFunc]⟩
theorem ti79_ok:tiOf Tryz.prog 79=some ti79:=by kernel_rfl
noncomputable def ti81:TI:=⟨.func,1,8,[.nilFunc]⟩
theorem ti81_ok:tiOf Tryz.prog 81=some ti81:=by kernel_rfl
noncomputable def ti82:TI:=⟨.func,1,8,[.nilFunc]⟩
theorem ti82_ok:tiOf Tryz.prog 82=some ti82:=by kernel_rfl
noncomputable def ti83:TI:=⟨.func,1,8,[.nilFunc]⟩
theorem ti83_ok:tiOf Tryz.prog 83=some ti83:=by kernel_rfl
noncomputable def ti84:TI:=⟨.func,1,8,[.nilFunc]⟩
theorem ti84_ok:tiOf Tryz.prog 84=some ti84:=by kernel_rfl
noncomputable def ti85:TI:=⟨.func,1,8,[.nilFunc]⟩
theorem ti85_ok:tiOf Tryz.prog 85=some ti85:=by kernel_rfl
noncomputable def ti86:TI:=⟨.array 8 3,8,64,[.int .i64 0,.int .i64 0,.int .i64 0,.int .i64 0,.int .i64 0,.int .i64 0,.int .i64 0,.int .i64 0]⟩
theorem ti86_ok:tiOf Tryz.prog 86=some ti86:=by kernel_rfl
noncomputable def ti87:TI:=⟨.array 8 4,8,8,[.bool false,.bool false,.bool false,.bool false,.bool false,.bool false,.bool false,.bool false]⟩
theorem ti87_ok:tiOf Tryz.prog 87=some ti87:=by kernel_rfl
noncomputable def ti89:TI:=⟨.func,1,8,[.nilFunc]⟩
theorem ti89_ok:tiOf Tryz.prog 89=some ti89:=by kernel_rfl
noncomputable def ti90:TI:=⟨.slice 135,1,24,[.slice none 0 0]⟩
theorem ti90_ok:tiOf Tryz.prog 90=some ti90:=by kernel_rfl
noncomputable def ti91:TI:=⟨.struct [(0,90)],1,24,[.slice none 0 0]⟩
theorem ti91_ok:tiOf Tryz.prog 91=some ti91:=by kernel_rfl
noncomputable def ti92:TI:=⟨.struct [(0,90)],1,24,[.slice none 0 0]⟩
theorem ti92_ok:tiOf Tryz.prog 92=some ti92:=by kernel_rfl
noncomputable def ti93:TI:=⟨.func,1,8,[.nilFunc]⟩
theorem ti93_ok:tiOf Tryz.prog 93=some ti93:=by kernel_rfl
noncomputable def ti95:TI:=⟨.func,1,8,[.nilFunc]⟩
theorem ti95_ok:tiOf Tryz.prog 95=some ti95:=by kernel_rfl
noncomputable def ti96:TI:=⟨.slice 145,1,24,[.slice none 0 0]⟩
theorem ti96_ok:tiOf Tryz.prog 96=some ti96:=by kernel_rfl
noncomputable def ti97:TI:=⟨.func,1,8,[.nilFunc]⟩
theorem ti97_ok:tiOf Tryz.prog 97=some ti97:=by kernel_rfl
noncomputable def ti98:TI:=⟨.func,1,8,[.nilFunc]⟩
theorem ti98_ok:tiOf Tryz.prog 98=some ti98:=by kernel_rfl
noncomputable def ti99:TI:=⟨.func,1,8,[.nilFunc]⟩
theorem ti99_ok:tiOf Tryz.prog 99=some ti99:=by kernel_rfl
noncomputable def ti100:TI:=⟨.map 107 63,1,8,[.map none]⟩
theorem ti100_ok:tiOf Tryz.prog 100=some ti100:=by kernel_rfl
noncomputable def ti101:TI:=⟨.struct [(0,100)],1,8,[.map none]⟩
theorem ti101_ok:tiOf Tryz.prog 101=some ti101:=by kernel_rfl
noncomputable def ti102:TI:=⟨.struct [(0,100)],1,8,[.map none]⟩
theorem ti102_ok:tiOf Tryz.prog 102=some ti102:=by kernel_rfl
noncomputable def ti103:TI:=⟨.struct [(0,102),(1,3)],2,16,[.map none,.int .i64 0]⟩
theorem ti103_ok:tiOf Tryz.prog 103=some ti103:=by kernel_rfl
noncomputable def ti104:TI:=⟨.struct [(0,102),(1,3)],2,16,[.map none,.int .i64 0]⟩
theorem ti104_ok:tiOf Tryz.prog 104=some ti104:=by kernel_rfl
noncomputable def ti105:TI:=⟨.func,1,8,[.nilFunc]⟩
theorem ti105_ok:tiOf Tryz.prog 105=some ti105:=by kernel_rfl
noncomputable def ti106:TI:=⟨.struct [(0,3),(1,9)],2,24,[.int .i64 0,.string ⟨#[]⟩]⟩
theorem ti106_ok:tiOf Tryz.prog 106=some ti106:=by kernel_rfl
noncomputable def ti107:TI:=⟨.struct [(0,3),(1,9)],2,24,[.int .i64 0,.string ⟨#[]⟩]⟩
theorem ti107_ok:tiOf Tryz.prog 107=some ti107:=by kernel_rfl
noncomputable def ti108:TI:=⟨.func,1,8,[.nilFunc]⟩
theorem ti108_ok:tiOf Tryz.prog 108=some ti108:=by kernel_rfl
noncomputable def ti109:TI:=⟨.func,1,8,[.nilFunc]⟩
theorem ti109_ok:tiOf Tryz.prog 109=some ti109:=by kernel_rfl
noncomputable def ti110:TI:=⟨.func,1,8,[.nilFunc]⟩
theorem ti110_ok:tiOf Tryz.prog 110=some ti110:=by kernel_rfl
noncomputable def ti111:TI:=⟨.func,1,8,[.nilFunc]⟩
theorem ti111_ok:tiOf Tryz.prog 111=some ti111:=by kernel_rfl
noncomputable def ti112:TI:=⟨.struct [(0,22),(1,63)],2,48,[.slice none 0 0,.slice none 0 0]⟩
theorem ti112_ok:tiOf Tryz.prog 112=some ti112:=by kernel_rfl
noncomputable def ti113:TI:=⟨.struct [(0,22),(1,63)],2,48,[.slice none 0 0,.slice none 0 0]⟩
theorem ti113_ok:tiOf Tryz.prog 113=some ti113:=by kernel_rfl
noncomputable def ti114:TI:=⟨.func,1,8,[.nilFunc]⟩
theorem ti114_ok:tiOf Tryz.prog 114=some ti114:=by kernel_rfl
noncomputable def ti115:TI:=⟨.func,1,8,[.nilFunc]⟩
theorem ti115_ok:tiOf Tryz.prog 115=some ti115:=by kernel_rfl
noncomputable def ti116:TI:=⟨.func,1,8,[.nilFunc]⟩
theorem ti116_ok:tiOf Tryz.prog 116=some ti116:=by kernel_rfl
noncomputable def ti117:TI:=⟨.slice 120,1,24,[.slice none 0 0]⟩
theorem ti117_ok:tiOf Tryz.prog 117=some ti117:=by kernel_rfl
noncomputable def ti118:TI:=⟨.func,1,8,[.nilFunc]⟩
theorem ti118_ok:tiOf Tryz.prog 118=some ti118:=by kernel_rfl
noncomputable def ti119:TI:=⟨.struct [(0,96),(1,96)],2,48,[.slice none 0 0,.slice none 0 0]⟩
theorem ti119_ok:tiOf Tryz.prog 119=some ti119:=by kernel_rfl
noncomputable def ti120:TI:=⟨.struct [(0,96),(1,96)],2,48,[.slice none 0 0,.slice none 0 0]⟩
theorem ti120_ok:tiOf Tryz.prog 120=some ti120:=by kernel_rfl
noncomputable def ti121:TI:=⟨.func,1,8,[.nilFunc]⟩
theorem ti121_ok:tiOf Tryz.prog 121=some ti121:=by kernel_rfl
noncomputable def ti122:TI:=⟨.slice 161,1,24,[.slice none 0 0]⟩
theorem ti122_ok:tiOf Tryz.prog 122=some ti122:=by kernel_rfl
noncomputable def ti123:TI:=⟨.func,1,8,[.nilFunc]⟩
theorem ti123_ok:tiOf Tryz.prog 123=some ti123:=by kernel_rfl
noncomputable def ti124:TI:=⟨.func,1,8,[.nilFunc]⟩
theorem ti124_ok:tiOf Tryz.prog 124=some ti124:=by kernel_rfl
noncomputable def ti125:TI:=⟨.struct [(0,9),(1,9)],2,32,[.string ⟨#[]⟩,.string ⟨#[]⟩]⟩
theorem ti125_ok:tiOf Tryz.prog 125=some ti125:=by kernel_rfl
noncomputable def ti126:TI:=⟨.struct [(0,9),(1,9)],2,32,[.string ⟨#[]⟩,.string ⟨#[]⟩]⟩
theorem ti126_ok:tiOf Tryz.prog 126=some ti126:=by kernel_rfl
noncomputable def ti127:TI:=⟨.func,1,8,[.nilFunc]⟩
theorem ti127_ok:tiOf Tryz.prog 127=some ti127:=by kernel_rfl
noncomputable def ti128:TI:=⟨.struct [(0,37),(4,3)],5,40,[.int .i64 0,.int .i64 0,.int .i64 0,.bool false,.int .i64 0]⟩
theorem ti128_ok:tiOf Tryz.prog 128=some ti128:=by kernel_rfl
noncomputable def ti129:TI:=⟨.struct [(0,37),(4,3)],5,40,[.int .i64 0,.int .i64 0,.int .i64 0,.bool false,.int .i64 0]⟩
theorem ti129_ok:tiOf Tryz.prog 129=some ti129:=by kernel_rfl
noncomputable def ti130:TI:=⟨.array 8 129,40,320,[.int .i64 0,.int .i64 0,.int .i64 0,.bool false,.int .i64 0,.int .i64 0,.int .i64 0,.int .i64 0,.bool false,.int .i64 0,.int .i64 0,.int .i64 0,.int .i64 0,.bool false,.int .i64 0,.int .i64 0,.int .i64 0,.int .i64 0,.bool false,.int .i64 0,.int .i64 0,.int .i64 0,.int .i64 0,.bool false,.int .i64 0,.int .i64 0,.int .i64 0,.int .i64 0,.bool false,.int .i64 0,.int .i64 0,.int .i64 0,.int .i64 0,.bool false,.int .i64 0,.int .i64 0,.int .i64 0,.int .i64 0,.bool false,.int .i64 0]⟩
theorem ti130_ok:tiOf Tryz.prog 130=some ti130:=by kernel_rfl
noncomputable def ti131:TI:=⟨.func,1,8,[.nilFunc]⟩
theorem ti131_ok:tiOf Tryz.prog 131=some ti131:=by kernel_rfl
noncomputable def ti132:TI:=⟨.func,1,8,[.nilFunc]⟩
theorem ti132_ok:tiOf Tryz.prog 132=some ti132:=by kernel_rfl
noncomputable def ti133:TI:=⟨.func,1,8,[.nilFunc]⟩
theorem ti133_ok:tiOf Tryz.prog 133=some ti133:=by kernel_rfl
noncomputable def ti134:TI:=⟨.struct [(0,41),(5,63),(6,3),(7,3),(8,3)],9,136,[.int .i64 0,.string ⟨#[]⟩,.string ⟨#[]⟩,.slice none 0 0,.slice none 0 0,.slice none 0 0,.int .i64 0,.int .i64 0,.int .i64 0]⟩
theorem ti134_ok:tiOf Tryz.prog 134=some ti134:=by kernel_rfl
noncomputable def ti135:TI:=⟨.struct [(0,41),(5,63),(6,3),(7,3),(8,3)],9,136,[.int .i64 0,.string ⟨#[]⟩,.string ⟨#[]⟩,.slice none 0 0,.slice none 0 0,.slice none 0 0,.int .i64 0,.int .i64 0,.int .i64 0]⟩
theorem ti135_ok:tiOf Tryz.prog 135=some ti135:=by kernel_rfl
noncomputable def ti136:TI:=⟨.ptr 135,1,8,[.pointer none]⟩
theorem ti136_ok:tiOf Tryz.prog 136=some ti136:=by kernel_rfl
noncomputable def ti137:TI:=⟨.ptr 139,1,8,[.pointer none]⟩
theorem ti137_ok:tiOf Tryz.prog 137=some ti137:=by kernel_rfl
noncomputable def ti138:TI:=⟨.struct [(0,96),(1,3),(2,4),(3,3)],4,48,[.slice none 0 0,.int .i64 0,.bool false,.int .i64 0]⟩
theorem ti138_ok:tiOf Tryz.prog 138=some ti138:=by kernel_rfl
noncomputable def ti139:TI:=⟨.struct [(0,96),(1,3),(2,4),(3,3)],4,48,[.slice none 0 0,.int .i64 0,.bool false,.int .i64 0]⟩
theorem ti139_ok:tiOf Tryz.prog 139=some ti139:=by kernel_rfl
noncomputable def ti140:TI:=⟨.func,1,8,[.nilFunc]⟩
theorem ti140_ok:tiOf Tryz.prog 140=some ti140:=by kernel_rfl
noncomputable def ti141:TI:=⟨.ptr 143,1,8,[.pointer none]⟩
theorem ti141_ok:tiOf Tryz.prog 141=some ti141:=by kernel_rfl
noncomputable def ti142:TI:=⟨.struct [(0,63),(1,3)],2,32,[.slice none 0 0,.int .i64 0]⟩
theorem ti142_ok:tiOf Tryz.prog 142=some ti142:=by kernel_rfl
noncomputable def ti143:TI:=⟨.struct [(0,63),(1,3)],2,32,[.slice none 0 0,.int .i64 0]⟩
theorem ti143_ok:tiOf Tryz.prog 143=some ti143:=by kernel_rfl
noncomputable def ti144:TI:=⟨.struct [(0,3),(1,9),(2,3),(3,4),(4,3)],5,48,[.int .i64 0,.string ⟨#[]⟩,.int .i64 0,.bool false,.int .i64 0]⟩
theorem ti144_ok:tiOf Tryz.prog 144=some ti144:=by kernel_rfl
noncomputable def ti145:TI:=⟨.struct [(0,3),(1,9),(2,3),(3,4),(4,3)],5,48,[.int .i64 0,.string ⟨#[]⟩,.int .i64 0,.bool false,.int .i64 0]⟩
theorem ti145_ok:tiOf Tryz.prog 145=some ti145:=by kernel_rfl
noncomputable def ti146:TI:=⟨.func,1,8,[.nilFunc]⟩
theorem ti146_ok:tiOf Tryz.prog 146=some ti146:=by kernel_rfl
noncomputable def ti147:TI:=⟨.func,1,8,[.nilFunc]⟩
theorem ti147_ok:tiOf Tryz.prog 147=some ti147:=by kernel_rfl
noncomputable def ti148:TI:=⟨.func,1,8,[.nilFunc]⟩
theorem ti148_ok:tiOf Tryz.prog 148=some ti148:=by kernel_rfl
noncomputable def ti149:TI:=⟨.func,1,8,[.nilFunc]⟩
theorem ti149_ok:tiOf Tryz.prog 149=some ti149:=by kernel_rfl
noncomputable def ti150:TI:=⟨.ptr 102,1,8,[.pointer none]⟩
theorem ti150_ok:tiOf Tryz.prog 150=some ti150:=by kernel_rfl
noncomputable def ti152:TI:=⟨.func,1,8,[.nilFunc]⟩
theorem ti152_ok:tiOf Tryz.prog 152=some ti152:=by kernel_rfl
noncomputable def ti153:TI:=⟨.func,1,8,[.nilFunc]⟩
theorem ti153_ok:tiOf Tryz.prog 153=some ti153:=by kernel_rfl
noncomputable def ti154:TI:=⟨.func,1,8,[.nilFunc]⟩
theorem ti154_ok:tiOf Tryz.prog 154=some ti154:=by kernel_rfl
noncomputable def ti155:TI:=⟨.func,1,8,[.nilFunc]⟩
theorem ti155_ok:tiOf Tryz.prog 155=some ti155:=by kernel_rfl
noncomputable def ti156:TI:=⟨.func,1,8,[.nilFunc]⟩
theorem ti156_ok:tiOf Tryz.prog 156=some ti156:=by kernel_rfl
noncomputable def ti157:TI:=⟨.func,1,8,[.nilFunc]⟩
theorem ti157_ok:tiOf Tryz.prog 157=some ti157:=by kernel_rfl
noncomputable def ti158:TI:=⟨.func,1,8,[.nilFunc]⟩
theorem ti158_ok:tiOf Tryz.prog 158=some ti158:=by kernel_rfl
noncomputable def ti159:TI:=⟨.func,1,8,[.nilFunc]⟩
theorem ti159_ok:tiOf Tryz.prog 159=some ti159:=by kernel_rfl
noncomputable def ti160:TI:=⟨.struct [(0,9),(1,96),(2,4)],3,48,[.string ⟨#[]⟩,.slice none 0 0,.bool false]⟩
theorem ti160_ok:tiOf Tryz.prog 160=some ti160:=by kernel_rfl
noncomputable def ti161:TI:=⟨.struct [(0,9),(1,96),(2,4)],3,48,[.string ⟨#[]⟩,.slice none 0 0,.bool false]⟩
theorem ti161_ok:tiOf Tryz.prog 161=some ti161:=by kernel_rfl
noncomputable def ti163:TI:=⟨.func,1,8,[.nilFunc]⟩
theorem ti163_ok:tiOf Tryz.prog 163=some ti163:=by kernel_rfl
noncomputable def ti165:TI:=⟨.func,1,8,[.nilFunc]⟩
theorem ti165_ok:tiOf Tryz.prog 165=some ti165:=by kernel_rfl
noncomputable def ti166:TI:=⟨.struct [(0,3),(1,3),(2,3),(3,45)],4,48,[.int .i64 0,.int .i64 0,.int .i64 0,.slice none 0 0]⟩
theorem ti166_ok:tiOf Tryz.prog 166=some ti166:=by kernel_rfl
noncomputable def ti167:TI:=⟨.struct [(0,3),(1,3),(2,3),(3,45)],4,48,[.int .i64 0,.int .i64 0,.int .i64 0,.slice none 0 0]⟩
theorem ti167_ok:tiOf Tryz.prog 167=some ti167:=by kernel_rfl
noncomputable def ti168:TI:=⟨.func,1,8,[.nilFunc]⟩
theorem ti168_ok:tiOf Tryz.prog 168=some ti168:=by kernel_rfl
noncomputable def ti169:TI:=⟨.func,1,8,[.nilFunc]⟩
theorem ti169_ok:tiOf Tryz.prog 169=some ti169:=by kernel_rfl
noncomputable def ti170:TI:=⟨.func,1,8,[.nilFunc]⟩
theorem ti170_ok:tiOf Tryz.prog 170=some ti170:=by kernel_rfl
noncomputable def ti171:TI:=⟨.func,1,8,[.nilFunc]⟩
theorem ti171_ok:tiOf Tryz.prog 171=some ti171:=by kernel_rfl
noncomputable def ti172:TI:=⟨.func,1,8,[.nilFunc]⟩
theorem ti172_ok:tiOf Tryz.prog 172=some ti172:=by kernel_rfl
noncomputable def ti173:TI:=⟨.func,1,8,[.nilFunc]⟩
theorem ti173_ok:tiOf Tryz.prog 173=some ti173:=by kernel_rfl
noncomputable def ti174:TI:=⟨.func,1,8,[.nilFunc]⟩
theorem ti174_ok:tiOf Tryz.prog 174=some ti174:=by kernel_rfl
noncomputable def ti175:TI:=⟨.func,1,8,[.nilFunc]⟩
theorem ti175_ok:tiOf Tryz.prog 175=some ti175:=by kernel_rfl
noncomputable def ti176:TI:=⟨.func,1,8,[.nilFunc]⟩
theorem ti176_ok:tiOf Tryz.prog 176=some ti176:=by kernel_rfl
noncomputable def ti177:TI:=⟨.func,1,8,[.nilFunc]⟩
theorem ti177_ok:tiOf Tryz.prog 177=some ti177:=by kernel_rfl
noncomputable def ti178:TI:=⟨.int .u32,1,4,[.int .u32 0]⟩
theorem ti178_ok:tiOf Tryz.prog 178=some ti178:=by kernel_rfl
noncomputable def ti179:TI:=⟨.slice 63,1,24,[.slice none 0 0]⟩
theorem ti179_ok:tiOf Tryz.prog 179=some ti179:=by kernel_rfl
noncomputable def ti180:TI:=⟨.func,1,8,[.nilFunc]⟩
theorem ti180_ok:tiOf Tryz.prog 180=some ti180:=by kernel_rfl
noncomputable def ti181:TI:=⟨.func,1,8,[.nilFunc]⟩
theorem ti181_ok:tiOf Tryz.prog 181=some ti181:=by kernel_rfl
noncomputable def ti182:TI:=⟨.func,1,8,[.nilFunc]⟩
theorem ti182_ok:tiOf Tryz.prog 182=some ti182:=by kernel_rfl
noncomputable def ti183:TI:=⟨.int .u64,1,8,[.int .u64 0]⟩
theorem ti183_ok:tiOf Tryz.prog 183=some ti183:=by kernel_rfl
noncomputable def ti184:TI:=⟨.func,1,8,[.nilFunc]⟩
theorem ti184_ok:tiOf Tryz.prog 184=some ti184:=by kernel_rfl
noncomputable def ti185:TI:=⟨.func,1,8,[.nilFunc]⟩
theorem ti185_ok:tiOf Tryz.prog 185=some ti185:=by kernel_rfl
noncomputable def ti186:TI:=⟨.func,1,8,[.nilFunc]⟩
theorem ti186_ok:tiOf Tryz.prog 186=some ti186:=by kernel_rfl
noncomputable def ti187:TI:=⟨.func,1,8,[.nilFunc]⟩
theorem ti187_ok:tiOf Tryz.prog 187=some ti187:=by kernel_rfl
noncomputable def ti188:TI:=⟨.func,1,8,[.nilFunc]⟩
theorem ti188_ok:tiOf Tryz.prog 188=some ti188:=by kernel_rfl
noncomputable def ti189:TI:=⟨.func,1,8,[.nilFunc]⟩
theorem ti189_ok:tiOf Tryz.prog 189=some ti189:=by kernel_rfl
noncomputable def ti190:TI:=⟨.func,1,8,[.nilFunc]⟩
theorem ti190_ok:tiOf Tryz.prog 190=some ti190:=by kernel_rfl
noncomputable def ti191:TI:=⟨.func,1,8,[.nilFunc]⟩
theorem ti191_ok:tiOf Tryz.prog 191=some ti191:=by kernel_rfl
noncomputable def ti192:TI:=⟨.array 3 3,3,24,[.int .i64 0,.int .i64 0,.int .i64 0]⟩
theorem ti192_ok:tiOf Tryz.prog 192=some ti192:=by kernel_rfl
noncomputable def ti193:TI:=⟨.func,1,8,[.nilFunc]⟩
theorem ti193_ok:tiOf Tryz.prog 193=some ti193:=by kernel_rfl
noncomputable def ti194:TI:=⟨.func,1,8,[.nilFunc]⟩
theorem ti194_ok:tiOf Tryz.prog 194=some ti194:=by kernel_rfl
noncomputable def ti195:TI:=⟨.func,1,8,[.nilFunc]⟩
theorem ti195_ok:tiOf Tryz.prog 195=some ti195:=by kernel_rfl
noncomputable def ti196:TI:=⟨.int .i64,1,8,[.int .i64 0]⟩
theorem ti196_ok:tiOf Tryz.prog 196=some ti196:=by kernel_rfl
noncomputable def ti198:TI:=⟨.func,1,8,[.nilFunc]⟩
theorem ti198_ok:tiOf Tryz.prog 198=some ti198:=by kernel_rfl
noncomputable def ti199:TI:=⟨.func,1,8,[.nilFunc]⟩
theorem ti199_ok:tiOf Tryz.prog 199=some ti199:=by kernel_rfl
noncomputable def ti200:TI:=⟨.func,1,8,[.nilFunc]⟩
theorem ti200_ok:tiOf Tryz.prog 200=some ti200:=by kernel_rfl
noncomputable def ti201:TI:=⟨.func,1,8,[.nilFunc]⟩
theorem ti201_ok:tiOf Tryz.prog 201=some ti201:=by kernel_rfl
noncomputable def ti202:TI:=⟨.func,1,8,[.nilFunc]⟩
theorem ti202_ok:tiOf Tryz.prog 202=some ti202:=by kernel_rfl
noncomputable def ti203:TI:=⟨.func,1,8,[.nilFunc]⟩
theorem ti203_ok:tiOf Tryz.prog 203=some ti203:=by kernel_rfl
noncomputable def ti204:TI:=⟨.func,1,8,[.nilFunc]⟩
theorem ti204_ok:tiOf Tryz.prog 204=some ti204:=by kernel_rfl
noncomputable def ti205:TI:=⟨.int .u64,1,8,[.int .u64 0]⟩
theorem ti205_ok:tiOf Tryz.prog 205=some ti205:=by kernel_rfl
noncomputable def ti206:TI:=⟨.func,1,8,[.nilFunc]⟩
theorem ti206_ok:tiOf Tryz.prog 206=some ti206:=by kernel_rfl
noncomputable def ti207:TI:=⟨.ptr 230,1,8,[.pointer none]⟩
theorem ti207_ok:tiOf Tryz.prog 207=some ti207:=by kernel_rfl
noncomputable def ti208:TI:=⟨.func,1,8,[.nilFunc]⟩
theorem ti208_ok:tiOf Tryz.prog 208=some ti208:=by kernel_rfl
noncomputable def ti209:TI:=⟨.func,1,8,[.nilFunc]⟩
theorem ti209_ok:tiOf Tryz.prog 209=some ti209:=by kernel_rfl
noncomputable def ti210:TI:=⟨.func,1,8,[.nilFunc]⟩
theorem ti210_ok:tiOf Tryz.prog 210=some ti210:=by kernel_rfl
noncomputable def ti211:TI:=⟨.func,1,8,[.nilFunc]⟩
theorem ti211_ok:tiOf Tryz.prog 211=some ti211:=by kernel_rfl
noncomputable def ti212:TI:=⟨.array 3 3,3,24,[.int .i64 0,.int .i64 0,.int .i64 0]⟩
theorem ti212_ok:tiOf Tryz.prog 212=some ti212:=by kernel_rfl
noncomputable def ti213:TI:=⟨.func,1,8,[.nilFunc]⟩
theorem ti213_ok:tiOf Tryz.prog 213=some ti213:=by kernel_rfl
noncomputable def ti214:TI:=⟨.struct [(0,9),(1,3),(2,9)],3,40,[.string ⟨#[]⟩,.int .i64 0,.string ⟨#[]⟩]⟩
theorem ti214_ok:tiOf Tryz.prog 214=some ti214:=by kernel_rfl
noncomputable def ti215:TI:=⟨.struct [(0,9),(1,3),(2,9)],3,40,[.string ⟨#[]⟩,.int .i64 0,.string ⟨#[]⟩]⟩
theorem ti215_ok:tiOf Tryz.prog 215=some ti215:=by kernel_rfl
noncomputable def ti216:TI:=⟨.func,1,8,[.nilFunc]⟩
theorem ti216_ok:tiOf Tryz.prog 216=some ti216:=by kernel_rfl
noncomputable def ti217:TI:=⟨.func,1,8,[.nilFunc]⟩
theorem ti217_ok:tiOf Tryz.prog 217=some ti217:=by kernel_rfl
noncomputable def ti218:TI:=⟨.func,1,8,[.nilFunc]⟩
theorem ti218_ok:tiOf Tryz.prog 218=some ti218:=by kernel_rfl
noncomputable def ti219:TI:=⟨.func,1,8,[.nilFunc]⟩
theorem ti219_ok:tiOf Tryz.prog 219=some ti219:=by kernel_rfl
noncomputable def ti220:TI:=⟨.func,1,8,[.nilFunc]⟩
theorem ti220_ok:tiOf Tryz.prog 220=some ti220:=by kernel_rfl
noncomputable def ti221:TI:=⟨.int .u64,1,8,[.int .u64 0]⟩
theorem ti221_ok:tiOf Tryz.prog 221=some ti221:=by kernel_rfl
noncomputable def ti222:TI:=⟨.func,1,8,[.nilFunc]⟩
theorem ti222_ok:tiOf Tryz.prog 222=some ti222:=by kernel_rfl
noncomputable def ti223:TI:=⟨.func,1,8,[.nilFunc]⟩
theorem ti223_ok:tiOf Tryz.prog 223=some ti223:=by kernel_rfl
noncomputable def ti224:TI:=⟨.func,1,8,[.nilFunc]⟩
theorem ti224_ok:tiOf Tryz.prog 224=some ti224:=by kernel_rfl
noncomputable def ti225:TI:=⟨.ptr 3,1,8,[.pointer none]⟩
theorem ti225_ok:tiOf Tryz.prog 225=some ti225:=by kernel_rfl
noncomputable def ti226:TI:=⟨.func,1,8,[.nilFunc]⟩
theorem ti226_ok:tiOf Tryz.prog 226=some ti226:=by kernel_rfl
noncomputable def ti227:TI:=⟨.map 246 4,1,8,[.map none]⟩
theorem ti227_ok:tiOf Tryz.prog 227=some ti227:=by kernel_rfl
noncomputable def ti228:TI:=⟨.slice 231,1,24,[.slice none 0 0]⟩
theorem ti228_ok:tiOf Tryz.prog 228=some ti228:=by kernel_rfl
noncomputable def ti229:TI:=⟨.struct [(0,26),(1,228),(2,227)],3,40,[.pointer none,.slice none 0 0,.map none]⟩
theorem ti229_ok:tiOf Tryz.prog 229=some ti229:=by kernel_rfl
noncomputable def ti230:TI:=⟨.struct [(0,26),(1,228),(2,227)],3,40,[.pointer none,.slice none 0 0,.map none]⟩
theorem ti230_ok:tiOf Tryz.prog 230=some ti230:=by kernel_rfl
noncomputable def ti231:TI:=⟨.slice 234,1,24,[.slice none 0 0]⟩
theorem ti231_ok:tiOf Tryz.prog 231=some ti231:=by kernel_rfl
noncomputable def ti232:TI:=⟨.func,1,8,[.nilFunc]⟩
theorem ti232_ok:tiOf Tryz.prog 232=some ti232:=by kernel_rfl
noncomputable def ti233:TI:=⟨.struct [(0,58),(6,179)],7,144,[.int .i64 0,.string ⟨#[]⟩,.slice none 0 0,.slice none 0 0,.slice none 0 0,.slice none 0 0,.slice none 0 0]⟩
theorem ti233_ok:tiOf Tryz.prog 233=some ti233:=by kernel_rfl
noncomputable def ti234:TI:=⟨.struct [(0,58),(6,179)],7,144,[.int .i64 0,.string ⟨#[]⟩,.slice none 0 0,.slice none 0 0,.slice none 0 0,.slice none 0 0,.slice none 0 0]⟩
theorem ti234_ok:tiOf Tryz.prog 234=some ti234:=by kernel_rfl
noncomputable def ti235:TI:=⟨.ptr 212,1,8,[.pointer none]⟩
theorem ti235_ok:tiOf Tryz.prog 235=some ti235:=by kernel_rfl
noncomputable def ti236:TI:=⟨.func,1,8,[.nilFunc]⟩
theorem ti236_ok:tiOf Tryz.prog 236=some ti236:=by kernel_rfl
noncomputable def ti237:TI:=⟨.func,1,8,[.nilFunc]⟩
theorem ti237_ok:tiOf Tryz.prog 237=some ti237:=by kernel_rfl
noncomputable def ti238:TI:=⟨.func,1,8,[.nilFunc]⟩
theorem ti238_ok:tiOf Tryz.prog 238=some ti238:=by kernel_rfl
noncomputable def ti239:TI:=⟨.func,1,8,[.nilFunc]⟩
theorem ti239_ok:tiOf Tryz.prog 239=some ti239:=by kernel_rfl
noncomputable def ti240:TI:=⟨.func,1,8,[.nilFunc]⟩
theorem ti240_ok:tiOf Tryz.prog 240=some ti240:=by kernel_rfl
noncomputable def ti241:TI:=⟨.func,1,8,[.nilFunc]⟩
theorem ti241_ok:tiOf Tryz.prog 241=some ti241:=by kernel_rfl
noncomputable def ti242:TI:=⟨.ptr 221,1,8,[.pointer none]⟩
theorem ti242_ok:tiOf Tryz.prog 242=some ti242:=by kernel_rfl
noncomputable def ti243:TI:=⟨.func,1,8,[.nilFunc]⟩
theorem ti243_ok:tiOf Tryz.prog 243=some ti243:=by kernel_rfl
noncomputable def ti244:TI:=⟨.func,1,8,[.nilFunc]⟩
theorem ti244_ok:tiOf Tryz.prog 244=some ti244:=by kernel_rfl
noncomputable def ti245:TI:=⟨.struct [(0,3),(1,3),(2,3),(3,4)],4,32,[.int .i64 0,.int .i64 0,.int .i64 0,.bool false]⟩
theorem ti245_ok:tiOf Tryz.prog 245=some ti245:=by kernel_rfl
noncomputable def ti246:TI:=⟨.struct [(0,3),(1,3),(2,3),(3,4)],4,32,[.int .i64 0,.int .i64 0,.int .i64 0,.bool false]⟩
theorem ti246_ok:tiOf Tryz.prog 246=some ti246:=by kernel_rfl
noncomputable def ti247:TI:=⟨.func,1,8,[.nilFunc]⟩
theorem ti247_ok:tiOf Tryz.prog 247=some ti247:=by kernel_rfl
noncomputable def ti248:TI:=⟨.func,1,8,[.nilFunc]⟩
theorem ti248_ok:tiOf Tryz.prog 248=some ti248:=by kernel_rfl
noncomputable def ti250:TI:=⟨.func,1,8,[.nilFunc]⟩
theorem ti250_ok:tiOf Tryz.prog 250=some ti250:=by kernel_rfl
noncomputable def ti251:TI:=⟨.func,1,8,[.nilFunc]⟩
theorem ti251_ok:tiOf Tryz.prog 251=some ti251:=by kernel_rfl
noncomputable def ti252:TI:=⟨.func,1,8,[.nilFunc]⟩
theorem ti252_ok:tiOf Tryz.prog 252=some ti252:=by kernel_rfl
noncomputable def ti253:TI:=⟨.func,1,8,[.nilFunc]⟩
theorem ti253_ok:tiOf Tryz.prog 253=some ti253:=by kernel_rfl
noncomputable def ti254:TI:=⟨.func,1,8,[.nilFunc]⟩
theorem ti254_ok:tiOf Tryz.prog 254=some ti254:=by kernel_rfl
noncomputable def ti255:TI:=⟨.func,1,8,[.nilFunc]⟩
theorem ti255_ok:tiOf Tryz.prog 255=some ti255:=by kernel_rfl
noncomputable def ti256:TI:=⟨.func,1,8,[.nilFunc]⟩
theorem ti256_ok:tiOf Tryz.prog 256=some ti256:=by kernel_rfl
noncomputable def ti257:TI:=⟨.func,1,8,[.nilFunc]⟩
theorem ti257_ok:tiOf Tryz.prog 257=some ti257:=by kernel_rfl
noncomputable def ti258:TI:=⟨.func,1,8,[.nilFunc]⟩
theorem ti258_ok:tiOf Tryz.prog 258=some ti258:=by kernel_rfl
noncomputable def ti260:TI:=⟨.func,1,8,[.nilFunc]⟩
theorem ti260_ok:tiOf Tryz.prog 260=some ti260:=by kernel_rfl
noncomputable def ti261:TI:=⟨.struct [(0,17),(1,17),(2,17),(3,9)],4,40,[.pointer none,.pointer none,.pointer none,.string ⟨#[]⟩]⟩
theorem ti261_ok:tiOf Tryz.prog 261=some ti261:=by kernel_rfl
noncomputable def ti262:TI:=⟨.struct [(0,17),(1,17),(2,17),(3,9)],4,40,[.pointer none,.pointer none,.pointer none,.string ⟨#[]⟩]⟩
theorem ti262_ok:tiOf Tryz.prog 262=some ti262:=by kernel_rfl
noncomputable def ti263:TI:=⟨.array 0 16,0,0,[]⟩
theorem ti263_ok:tiOf Tryz.prog 263=some ti263:=by kernel_rfl
noncomputable def ti264:TI:=⟨.struct [(0,263)],0,0,[]⟩
theorem ti264_ok:tiOf Tryz.prog 264=some ti264:=by kernel_rfl
noncomputable def ti265:TI:=⟨.struct [(0,263)],0,0,[]⟩
theorem ti265_ok:tiOf Tryz.prog 265=some ti265:=by kernel_rfl
noncomputable def ti266:TI:=⟨.int .u8,1,1,[.int .u8 0]⟩
theorem ti266_ok:tiOf Tryz.prog 266=some ti266:=by kernel_rfl
noncomputable def ti267:TI:=⟨.int .u8,1,1,[.int .u8 0]⟩
theorem ti267_ok:tiOf Tryz.prog 267=some ti267:=by kernel_rfl
noncomputable def ti268:TI:=⟨.func,1,8,[.nilFunc]⟩
theorem ti268_ok:tiOf Tryz.prog 268=some ti268:=by kernel_rfl
noncomputable def ti269:TI:=⟨.ptr 5,1,8,[.pointer none]⟩
theorem ti269_ok:tiOf Tryz.prog 269=some ti269:=by kernel_rfl
noncomputable def ti270:TI:=⟨.int .i32,1,4,[.int .i32 0]⟩
theorem ti270_ok:tiOf Tryz.prog 270=some ti270:=by kernel_rfl
noncomputable def ti271:TI:=⟨.int .i32,1,4,[.int .i32 0]⟩
theorem ti271_ok:tiOf Tryz.prog 271=some ti271:=by kernel_rfl
noncomputable def ti272:TI:=⟨.struct [(0,12),(1,12),(2,178),(3,266),(4,5),(5,5),(6,267),(7,268),(8,269),(9,270),(10,271)],11,48,[.int .u64 0,.int .u64 0,.int .u32 0,.int .u8 0,.int .u8 0,.int .u8 0,.int .u8 0,.nilFunc,.pointer none,.int .i32 0,.int .i32 0]⟩
theorem ti272_ok:tiOf Tryz.prog 272=some ti272:=by kernel_rfl
noncomputable def ti273:TI:=⟨.struct [(0,12),(1,12),(2,178),(3,266),(4,5),(5,5),(6,267),(7,268),(8,269),(9,270),(10,271)],11,48,[.int .u64 0,.int .u64 0,.int .u32 0,.int .u8 0,.int .u8 0,.int .u8 0,.int .u8 0,.nilFunc,.pointer none,.int .i32 0,.int .i32 0]⟩
theorem ti273_ok:tiOf Tryz.prog 273=some ti273:=by kernel_rfl
noncomputable def tiT:Tr TI:=.node none (.node (some ti1) (.node (some ti3) (.node (some ti7) (.node (some ti15) (.node (some ti31) (.node (some ti63) (.node (some ti127) (.node (some ti255) .leaf .leaf) .leaf) (.node (some ti191) .leaf .leaf)) (.node (some ti95) (.node (some ti159) .leaf .leaf) (.node (some ti223) .leaf .leaf))) (.node (some ti47) (.node (some ti79) (.node (some ti143) (.node (some ti271) .leaf .leaf) .leaf) (.node (some ti207) .leaf .leaf)) (.node (some ti111) (.node (some ti175) .leaf .leaf) (.node (some ti239) .leaf .leaf)))) (.node (some ti23) (.node (some ti39) (.node (some ti71) (.node (some ti135) (.node (some ti263) .leaf .leaf) .leaf) (.node (some ti199) .leaf .leaf)) (.node (some ti103) (.node (some ti167) .leaf .leaf) (.node (some ti231) .leaf .leaf))) (.node (some ti55) (.node (some ti87) .leaf (.node (some ti215) .leaf .leaf)) (.node (some ti119) (.node (some ti183) .leaf .leaf) (.node (some ti247) .leaf .leaf))))) (.node (some ti11) (.node (some ti19) (.node (some ti35) (.node (some ti67) (.node (some ti131) .leaf .leaf) (.node (some ti195) .leaf .leaf)) (.node (some ti99) (.node (some ti163) .leaf .leaf) (.node (some ti227) .leaf .leaf))) (.node (some ti51) (.node (some ti83) (.node (some ti147) .leaf .leaf) (.node (some ti211) .leaf .leaf)) (.node (some ti115) (.node (some ti179) .leaf .leaf) (.node (some ti243) .leaf .leaf)))) (.node (some ti27) (.node none (.node (some ti75) (.node (some ti139) (.node (some ti267) .leaf .leaf) .leaf) (.node (some ti203) .leaf .leaf)) (.node (some ti107) (.node (some ti171) .leaf .leaf) (.node (some ti235) .leaf .leaf))) (.node (some ti59) (.node (some ti91) (.node (some ti155) .leaf .leaf) (.node (some ti219) .leaf .leaf)) (.node (some ti123) (.node (some ti187) .leaf .leaf) (.node (some ti251) .leaf .leaf)))))) (.node (some ti5) (.node (some ti9) (.node (some ti17) (.node (some ti33) (.node (some ti65) (.node (some ti129) (.node (some ti257) .leaf .leaf) .leaf) (.node (some ti193) .leaf .leaf)) (.node (some ti97) (.node (some ti161) .leaf .leaf) (.node (some ti225) .leaf .leaf))) (.node (some ti49) (.node (some ti81) (.node (some ti145) (.node (some ti273) .leaf .leaf) .leaf) (.node (some ti209) .leaf .leaf)) (.node (some ti113) (.node (some ti177) .leaf .leaf) (.node (some ti241) .leaf .leaf)))) (.node (some ti25) (.node (some ti41) (.node (some ti73) (.node (some ti137) (.node (some ti265) .leaf .leaf) .leaf) (.node (some ti201) .leaf .leaf)) (.node (some ti105) (.node (some ti169) .leaf .leaf) (.node (some ti233) .leaf .leaf))) (.node (some ti57) (.node (some ti89) (.node (some ti153) .leaf .leaf) (.node (some ti217) .leaf .leaf)) (.node (some ti121) (.node (some ti185) .leaf .leaf) .leaf)))) (.node (some ti13) (.node (some ti21) (.node (some ti37) (.node (some ti69) (.node (some ti133) (.node (some ti261) .leaf .leaf) .leaf) .leaf) (.node (some ti101) (.node (some ti165) .leaf .leaf) (.node (some ti229) .leaf .leaf))) (.node (some ti53) (.node (some ti85) (.node (some ti149) .leaf .leaf) (.node (some ti213) .leaf .leaf)) (.node (some ti117) (.node (some ti181) .leaf .leaf) (.node (some ti245) .leaf .leaf)))) (.node (some ti29) (.node (some ti45) (.node (some ti77) (.node (some ti141) (.node (some ti269) .leaf .leaf) .leaf) (.node (some ti205) .leaf .leaf)) (.node (some ti109) (.node (some ti173) .leaf .leaf) (.node (some ti237) .leaf .leaf))) (.node (some ti61) (.node (some ti93) (.node (some ti157) .leaf .leaf) (.node (some ti221) .leaf .leaf)) (.node (some ti125) (.node (some ti189) .leaf .leaf) (.node (some ti253) .leaf .leaf))))))) (.node (some ti2) (.node (some ti4) (.node (some ti8) (.node (some ti16) (.node (some ti32) (.node (some ti64) (.node (some ti128) (.node (some ti256) .leaf .leaf) .leaf) (.node (some ti192) .leaf .leaf)) (.node (some ti96) (.node (some ti160) .leaf .leaf) (.node (some ti224) .leaf .leaf))) (.node (some ti48) (.node none (.node (some ti144) (.node (some ti272) .leaf .leaf) .leaf) (.node (some ti208) .leaf .leaf)) (.node (some ti112) (.node (some ti176) .leaf .leaf) (.node (some ti240) .leaf .leaf)))) (.node (some ti24) (.node (some ti40) (.node (some ti72) (.node (some ti136) (.node (some ti264) .leaf .leaf) .leaf) (.node (some ti200) .leaf .leaf)) (.node (some ti104) (.node (some ti168) .leaf .leaf) (.node (some ti232) .leaf .leaf))) (.node (some ti56) (.node none (.node (some ti152) .leaf .leaf) (.node (some ti216) .leaf .leaf)) (.node (some ti120) (.node (some ti184) .leaf .leaf) (.node (some ti248) .leaf .leaf))))) (.node (some ti12) (.node none (.node (some ti36) (.node (some ti68) (.node (some ti132) (.node (some ti260) .leaf .leaf) .leaf) (.node (some ti196) .leaf .leaf)) (.node (some ti100) .leaf (.node (some ti228) .leaf .leaf))) (.node (some ti52) (.node (some ti84) (.node (some ti148) .leaf .leaf) (.node (some ti212) .leaf .leaf)) (.node (some ti116) (.node (some ti180) .leaf .leaf) (.node (some ti244) .leaf .leaf)))) (.node none (.node (some ti44) (.node (some ti76) (.node (some ti140) (.node (some ti268) .leaf .leaf) .leaf) (.node (some ti204) .leaf .leaf)) (.node (some ti108) (.node (some ti172) .leaf .leaf) (.node (some ti236) .leaf .leaf))) (.node (some ti60) (.node (some ti92) (.node (some ti156) .leaf .leaf) (.node (some ti220) .leaf .leaf)) (.node (some ti124) (.node (some ti188) .leaf .leaf) (.node (some ti252) .leaf .leaf)))))) (.node (some ti6) (.node (some ti10) (.node (some ti18) (.node (some ti34) (.node (some ti66) (.node (some ti130) (.node (some ti258) .leaf .leaf) .leaf) (.node (some ti194) .leaf .leaf)) (.node (some ti98) .leaf (.node (some ti226) .leaf .leaf))) (.node (some ti50) (.node (some ti82) (.node (some ti146) .leaf .leaf) (.node (some ti210) .leaf .leaf)) (.node (some ti114) (.node (some ti178) .leaf .leaf) (.node (some ti242) .leaf .leaf)))) (.node (some ti26) (.node (some ti42) (.node (some ti74) (.node (some ti138) (.node (some ti266) .leaf .leaf) .leaf) (.node (some ti202) .leaf .leaf)) (.node (some ti106) (.node (some ti170) .leaf .leaf) (.node (some ti234) .leaf .leaf))) (.node (some ti58) (.node (some ti90) (.node (some ti154) .leaf .leaf) (.node (some ti218) .leaf .leaf)) (.node (some ti122) (.node (some ti186) .leaf .leaf) (.node (some ti250) .leaf .leaf))))) (.node (some ti14) (.node (some ti22) (.node (some ti38) (.node (some ti70) (.node (some ti134) (.node (some ti262) .leaf .leaf) .leaf) (.node (some ti198) .leaf .leaf)) (.node (some ti102) (.node (some ti166) .leaf .leaf) (.node (some ti230) .leaf .leaf))) (.node (some ti54) (.node (some ti86) (.node (some ti150) .leaf .leaf) (.node (some ti214) .leaf .leaf)) (.node (some ti118) (.node (some ti182) .leaf .leaf) (.node (some ti246) .leaf .leaf)))) (.node (some ti30) (.node (some ti46) (.node (some ti78) (.node (some ti142) (.node (some ti270) .leaf .leaf) .leaf) (.node (some ti206) .leaf .leaf)) (.node (some ti110) (.node (some ti174) .leaf .leaf) (.node (some ti238) .leaf .leaf))) (.node (some ti62) (.node none (.node (some ti158) .leaf .leaf) (.node (some ti222) .leaf .leaf)) (.node (some ti126) (.node (some ti190) .leaf .leaf) (.node (some ti254) .leaf .leaf)))))))
theorem tiT_list:tiT.toL=[(1,ti1),(3,ti3),(7,ti7),(15,ti15),(31,ti31),(63,ti63),(127,ti127),(255,ti255),(191,ti191),(95,ti95),(159,ti159),(223,ti223),(47,ti47),(79,ti79),(143,ti143),(271,ti271),(207,ti207),(111,ti111),(175,ti175),(239,ti239),(23,ti23),(39,ti39),(71,ti71),(135,ti135),(263,ti263),(199,ti199),(103,ti103),(167,ti167),(231,ti231),(55,ti55),(87,ti87),(215,ti215),(119,ti119),(183,ti183),(247,ti247),(11,ti11),(19,ti19),(35,ti35),(67,ti67),(131,ti131),(195,ti195),(99,ti99),(163,ti163),(227,ti227),(51,ti51),(83,ti83),(147,ti147),(211,ti211),(115,ti115),(179,ti179),(243,ti243),(27,ti27),(75,ti75),(139,ti139),(267,ti267),(203,ti203),(107,ti107),(171,ti171),(235,ti235),(59,ti59),(91,ti91),(155,ti155),(219,ti219),(123,ti123),(187,ti187),(251,ti251),(5,ti5),(9,ti9),(17,ti17),(33,ti33),(65,ti65),(129,ti129),(257,ti257),(193,ti193),(97,ti97),(161,ti161),(225,ti225),(49,ti49),(81,ti81),(145,ti145),(273,ti273),(209,ti209),(113,ti113),(177,ti177),(241,ti241),(25,ti25),(41,ti41),(73,ti73),(137,ti137),(265,ti265),(201,ti201),(105,ti105),(169,ti169),(233,ti233),(57,ti57),(89,ti89),(153,ti153),(217,ti217),(121,ti121),(185,ti185),(13,ti13),(21,ti21),(37,ti37),(69,ti69),(133,ti133),(261,ti261),(101,ti101),(165,ti165),(229,ti229),(53,ti53),(85,ti85),(149,ti149),(213,ti213),(117,ti117),(181,ti181),(245,ti245),(29,ti29),(45,ti45),(77,ti77),(141,ti141),(269,ti269),(205,ti205),(109,ti109),(173,ti173),(237,ti237),(61,ti61),(93,ti93),(157,ti157),(221,ti221),(125,ti125),(189,ti189),(253,ti253),(2,ti2),(4,ti4),(8,ti8),(16,ti16),(32,ti32),(64,ti64),(128,ti128),(256,ti256),(192,ti192),(96,ti96),(160,ti160),(224,ti224),(48,ti48),(144,ti144),(272,ti272),(208,ti208),(112,ti112),(176,ti176),(240,ti240),(24,ti24),(40,ti40),(72,ti72),(136,ti136),(264,ti264),(200,ti200),(104,ti104),(168,ti168),(232,ti232),(56,ti56),(152,ti152),(216,ti216),(120,ti120),(184,ti184),(248,ti248),(12,ti12),(36,ti36),(68,ti68),(132,ti132),(260,ti260),(196,ti196),(100,ti100),(228,ti228),(52,ti52),(84,ti84),(148,ti148),(212,ti212),(116,ti116),(180,ti180),(244,ti244),(44,ti44),(76,ti76),(140,ti140),(268,ti268),(204,ti204),(108,ti108),(172,ti172),(236,ti236),(60,ti60),(92,ti92),(156,ti156),(220,ti220),(124,ti124),(188,ti188),(252,ti252),(6,ti6),(10,ti10),(18,ti18),(34,ti34),(66,ti66),(130,ti130),(258,ti258),(194,ti194),(98,ti98),(226,ti226),(50,ti50),(82,ti82),(146,ti146),(210,ti210),(114,ti114),(178,ti178),(242,ti242),(26,ti26),(42,ti42),(74,ti74),(138,ti138),(266,ti266),(202,ti202),(106,ti106),(170,ti170),(234,ti234),(58,ti58),(90,ti90),(154,ti154),(218,ti218),(122,ti122),(186,ti186),(250,ti250),(14,ti14),(22,ti22),(38,ti38),(70,ti70),(134,ti134),(262,ti262),(198,ti198),(102,ti102),(166,ti166),(230,ti230),(54,ti54),(86,ti86),(150,ti150),(214,ti214),(118,ti118),(182,ti182),(246,ti246),(30,ti30),(46,ti46),(78,ti78),(142,ti142),(270,ti270),(206,ti206),(110,ti110),(174,ti174),(238,ti238),(62,ti62),(158,ti158),(222,ti222),(126,ti126),(190,ti190),(254,ti254)]:=by kernel_rfl
theorem tiT_ok:∀ t i,tiT.get t=some i→tiOf Tryz.prog t=some i:=by
 refine Tr.all_get (p:=fun t i=>tiOf Tryz.prog t=some i) ?_
 rw [tiT_list]
 exact .cons ti1_ok (.cons ti3_ok (.cons ti7_ok (.cons ti15_ok (.cons ti31_ok (.cons ti63_ok (.cons ti127_ok (.cons ti255_ok (.cons ti191_ok (.cons ti95_ok (.cons ti159_ok (.cons ti223_ok (.cons ti47_ok (.cons ti79_ok (.cons ti143_ok (.cons ti271_ok (.cons ti207_ok (.cons ti111_ok (.cons ti175_ok (.cons ti239_ok (.cons ti23_ok (.cons ti39_ok (.cons ti71_ok (.cons ti135_ok (.cons ti263_ok (.cons ti199_ok (.cons ti103_ok (.cons ti167_ok (.cons ti231_ok (.cons ti55_ok (.cons ti87_ok (.cons ti215_ok (.cons ti119_ok (.cons ti183_ok (.cons ti247_ok (.cons ti11_ok (.cons ti19_ok (.cons ti35_ok (.cons ti67_ok (.cons ti131_ok (.cons ti195_ok (.cons ti99_ok (.cons ti163_ok (.cons ti227_ok (.cons ti51_ok (.cons ti83_ok (.cons ti147_ok (.cons ti211_ok (.cons ti115_ok (.cons ti179_ok (.cons ti243_ok (.cons ti27_ok (.cons ti75_ok (.cons ti139_ok (.cons ti267_ok (.cons ti203_ok (.cons ti107_ok (.cons ti171_ok (.cons ti235_ok (.cons ti59_ok (.cons ti91_ok (.cons ti155_ok (.cons ti219_ok (.cons ti123_ok (.cons ti187_ok (.cons ti251_ok (.cons ti5_ok (.cons ti9_ok (.cons ti17_ok (.cons ti33_ok (.cons ti65_ok (.cons ti129_ok (.cons ti257_ok (.cons ti193_ok (.cons ti97_ok (.cons ti161_ok (.cons ti225_ok (.cons ti49_ok (.cons ti81_ok (.cons ti145_ok (.cons ti273_ok (.cons ti209_ok (.cons ti113_ok (.cons ti177_ok (.cons ti241_ok (.cons ti25_ok (.cons ti41_ok (.cons ti73_ok (.cons ti137_ok (.cons ti265_ok (.cons ti201_ok (.cons ti105_ok (.cons ti169_ok (.cons ti233_ok (.cons ti57_ok (.cons ti89_ok (.cons ti153_ok (.cons ti217_ok (.cons ti121_ok (.cons ti185_ok (.cons ti13_ok (.cons ti21_ok (.cons ti37_ok (.cons ti69_ok (.cons ti133_ok (.cons ti261_ok (.cons ti101_ok (.cons ti165_ok (.cons ti229_ok (.cons ti53_ok (.cons ti85_ok (.cons ti149_ok (.cons ti213_ok (.cons ti117_ok (.cons ti181_ok (.cons ti245_ok (.cons ti29_ok (.cons ti45_ok (.cons ti77_ok (.cons ti141_ok (.cons ti269_ok (.cons ti205_ok (.cons ti109_ok (.cons ti173_ok (.cons ti237_ok (.cons ti61_ok (.cons ti93_ok (.cons ti157_ok (.cons ti221_ok (.cons ti125_ok (.cons ti189_ok (.cons ti253_ok (.cons ti2_ok (.cons ti4_ok (.cons ti8_ok (.cons ti16_ok (.cons ti32_ok (.cons ti64_ok (.cons ti128_ok (.cons ti256_ok (.cons ti192_ok (.cons ti96_ok (.cons ti160_ok (.cons ti224_ok (.cons ti48_ok (.cons ti144_ok (.cons ti272_ok (.cons ti208_ok (.cons ti112_ok (.cons ti176_ok (.cons ti240_ok (.cons ti24_ok (.cons ti40_ok (.cons ti72_ok (.cons ti136_ok (.cons ti264_ok (.cons ti200_ok (.cons ti104_ok (.cons ti168_ok (.cons ti232_ok (.cons ti56_ok (.cons ti152_ok (.cons ti216_ok (.cons ti120_ok (.cons ti184_ok (.cons ti248_ok (.cons ti12_ok (.cons ti36_ok (.cons ti68_ok (.cons ti132_ok (.cons ti260_ok (.cons ti196_ok (.cons ti100_ok (.cons ti228_ok (.cons ti52_ok (.cons ti84_ok (.cons ti148_ok (.cons ti212_ok (.cons ti116_ok (.cons ti180_ok (.cons ti244_ok (.cons ti44_ok (.cons ti76_ok (.cons ti140_ok (.cons ti268_ok (.cons ti204_ok (.cons ti108_ok (.cons ti172_ok (.cons ti236_ok (.cons ti60_ok (.cons ti92_ok (.cons ti156_ok (.cons ti220_ok (.cons ti124_ok (.cons ti188_ok (.cons ti252_ok (.cons ti6_ok (.cons ti10_ok (.cons ti18_ok (.cons ti34_ok (.cons ti66_ok (.cons ti130_ok (.cons ti258_ok (.cons ti194_ok (.cons ti98_ok (.cons ti226_ok (.cons ti50_ok (.cons ti82_ok (.cons ti146_ok (.cons ti210_ok (.cons ti114_ok (.cons ti178_ok (.cons ti242_ok (.cons ti26_ok (.cons ti42_ok (.cons ti74_ok (.cons ti138_ok (.cons ti266_ok (.cons ti202_ok (.cons ti106_ok (.cons ti170_ok (.cons ti234_ok (.cons ti58_ok (.cons ti90_ok (.cons ti154_ok (.cons ti218_ok (.cons ti122_ok (.cons ti186_ok (.cons ti250_ok (.cons ti14_ok (.cons ti22_ok (.cons ti38_ok (.cons ti70_ok (.cons ti134_ok (.cons ti262_ok (.cons ti198_ok (.cons ti102_ok (.cons ti166_ok (.cons ti230_ok (.cons ti54_ok (.cons ti86_ok (.cons ti150_ok (.cons ti214_ok (.cons ti118_ok (.cons ti182_ok (.cons ti246_ok (.cons ti30_ok (.cons ti46_ok (.cons ti78_ok (.cons ti142_ok (.cons ti270_ok (.cons ti206_ok (.cons ti110_ok (.cons ti174_ok (.cons ti238_ok (.cons ti62_ok (.cons ti158_ok (.cons ti222_ok (.cons ti126_ok (.cons ti190_ok (.cons ti254_ok (.nil)))))))))))))))))))))))))))))))))))))))))))))))))))))))))))))))))))))))))))))))))))))))))))))))))))))))))))))))))))))))))))))))))))))))))))))))))))))))))))))))))))))))))))))))))))))))))))))))))))))))))))))))))))))))))))))))))))))))))))))))))))))))))))))))))))))
noncomputable def fnT:Tr Func:=.node none (.node none (.node (some Tryz.f3) (.node (some Tryz.f7) (.node (some Tryz.f15) (.node (some Tryz.f31) (.node (some Tryz.f63) (.node (some Tryz.f127) .leaf .leaf) (.node (some Tryz.f191) .leaf .leaf)) (.node (some Tryz.f95) (.node (some Tryz.f159) .leaf .leaf) .leaf)) (.node (some Tryz.f47) (.node (some Tryz.f79) (.node (some Tryz.f143) .leaf .leaf) (.node (some Tryz.f207) .leaf .leaf)) (.node (some Tryz.f111) (.node (some Tryz.f175) .leaf .leaf) .leaf))) (.node (some Tryz.f23) (.node (some Tryz.f39) (.node (some Tryz.f71) (.node (some Tryz.f135) .leaf .leaf) (.node (some Tryz.f199) .leaf .leaf)) (.node (some Tryz.f103) (.node (some Tryz.f167) .leaf .leaf) .leaf)) (.node (some Tryz.f55) (.node (some Tryz.f87) (.node (some Tryz.f151) .leaf .leaf) .leaf) (.node (some Tryz.f119) (.node (some Tryz.f183) .leaf .leaf) .leaf)))) (.node (some Tryz.f11) (.node (some Tryz.f19) (.node (some Tryz.f35) (.node (some Tryz.f67) (.node (some Tryz.f131) .leaf .leaf) (.node (some Tryz.f195) .leaf .leaf)) (.node (some Tryz.f99) (.node (some Tryz.f163) .leaf .leaf) .leaf)) (.node (some Tryz.f51) (.node (some Tryz.f83) (.node (some Tryz.f147) .leaf .leaf) .leaf) (.node (some Tryz.f115) (.node (some Tryz.f179) .leaf .leaf) .leaf))) (.node (some Tryz.f27) (.node (some Tryz.f43) (.node (some Tryz.f75) (.node (some Tryz.f139) .leaf .leaf) (.node (some Tryz.f203) .leaf .leaf)) (.node (some Tryz.f107) (.node (some Tryz.f171) .leaf .leaf) .leaf)) (.node (some Tryz.f59) (.node (some Tryz.f91) (.node (some Tryz.f155) .leaf .leaf) .leaf) (.node (some Tryz.f123) (.node (some Tryz.f187) .leaf .leaf) .leaf))))) (.node (some Tryz.f5) (.node (some Tryz.f9) (.node (some Tryz.f17) (.node (some Tryz.f33) (.node (some Tryz.f65) (.node (some Tryz.f129) .leaf .leaf) (.node (some Tryz.f193) .leaf .leaf)) (.node (some Tryz.f97) (.node (some Tryz.f161) .leaf .leaf) .leaf)) (.node (some Tryz.f49) (.node (some Tryz.f81) (.node (some Tryz.f145) .leaf .leaf) (.node (some Tryz.f209) .leaf .leaf)) (.node (some Tryz.f113) (.node (some Tryz.f177) .leaf .leaf) .leaf))) (.node (some Tryz.f25) (.node (some Tryz.f41) (.node (some Tryz.f73) (.node (some Tryz.f137) .leaf .leaf) (.node (some Tryz.f201) .leaf .leaf)) (.node (some Tryz.f105) (.node (some Tryz.f169) .leaf .leaf) .leaf)) (.node (some Tryz.f57) (.node (some Tryz.f89) (.node (some Tryz.f153) .leaf .leaf) .leaf) (.node (some Tryz.f121) (.node (some Tryz.f185) .leaf .leaf) .leaf)))) (.node (some Tryz.f13) (.node (some Tryz.f21) (.node (some Tryz.f37) (.node (some Tryz.f69) (.node (some Tryz.f133) .leaf .leaf) (.node (some Tryz.f197) .leaf .leaf)) (.node (some Tryz.f101) (.node (some Tryz.f165) .leaf .leaf) .leaf)) (.node (some Tryz.f53) (.node (some Tryz.f85) (.node (some Tryz.f149) .leaf .leaf) .leaf) (.node (some Tryz.f117) (.node (some Tryz.f181) .leaf .leaf) .leaf))) (.node (some Tryz.f29) (.node (some Tryz.f45) (.node (some Tryz.f77) (.node (some Tryz.f141) .leaf .leaf) (.node (some Tryz.f205) .leaf .leaf)) (.node (some Tryz.f109) (.node (some Tryz.f173) .leaf .leaf) .leaf)) (.node (some Tryz.f61) (.node (some Tryz.f93) (.node (some Tryz.f157) .leaf .leaf) .leaf) (.node (some Tryz.f125) (.node (some Tryz.f189) .leaf .leaf) .leaf)))))) (.node none (.node (some Tryz.f4) (.node (some Tryz.f8) (.node (some Tryz.f16) (.node (some Tryz.f32) (.node (some Tryz.f64) (.node (some Tryz.f128) .leaf .leaf) (.node (some Tryz.f192) .leaf .leaf)) (.node (some Tryz.f96) (.node (some Tryz.f160) .leaf .leaf) .leaf)) (.node (some Tryz.f48) (.node (some Tryz.f80) (.node (some Tryz.f144) .leaf .leaf) (.node (some Tryz.f208) .leaf .leaf)) (.node (some Tryz.f112) (.node (some Tryz.f176) .leaf .leaf) .leaf))) (.node (some Tryz.f24) (.node (some Tryz.f40) (.node (some Tryz.f72) (.node (some Tryz.f136) .leaf .leaf) (.node (some Tryz.f200) .leaf .leaf)) (.node (some Tryz.f104) (.node (some Tryz.f168) .leaf .leaf) .leaf)) (.node (some Tryz.f56) (.node (some Tryz.f88) (.node (some Tryz.f152) .leaf .leaf) .leaf) (.node (some Tryz.f120) (.node (some Tryz.f184) .leaf .leaf) .leaf)))) (.node (some Tryz.f12) (.node (some Tryz.f20) (.node (some Tryz.f36) (.node (some Tryz.f68) (.node (some Tryz.f132) .leaf .leaf) (.node (some Tryz.f196) .leaf .leaf)) (.node (some Tryz.f100) (.node (some Tryz.f164) .leaf .leaf) .leaf)) (.node (some Tryz.f52) (.node (some Tryz.f84) (.node (some Tryz.f148) .leaf .leaf) .leaf) (.node (some Tryz.f116) (.node (some Tryz.f180) .leaf .leaf) .leaf))) (.node (some Tryz.f28) (.node (some Tryz.f44) (.node (some Tryz.f76) (.node (some Tryz.f140) .leaf .leaf) (.node (some Tryz.f204) .leaf .leaf)) (.node (some Tryz.f108) (.node (some Tryz.f172) .leaf .leaf) .leaf)) (.node (some Tryz.f60) (.node (some Tryz.f92) (.node (some Tryz.f156) .leaf .leaf) .leaf) (.node (some Tryz.f124) (.node (some Tryz.f188) .leaf .leaf) .leaf))))) (.node (some Tryz.f6) (.node (some Tryz.f10) (.node (some Tryz.f18) (.node (some Tryz.f34) (.node (some Tryz.f66) (.node (some Tryz.f130) .leaf .leaf) (.node (some Tryz.f194) .leaf .leaf)) (.node (some Tryz.f98) (.node (some Tryz.f162) .leaf .leaf) .leaf)) (.node (some Tryz.f50) (.node (some Tryz.f82) (.node (some Tryz.f146) .leaf .leaf) .leaf) (.node (some Tryz.f114) (.node (some Tryz.f178) .leaf .leaf) .leaf))) (.node (some Tryz.f26) (.node (some Tryz.f42) (.node (some Tryz.f74) (.node (some Tryz.f138) .leaf .leaf) (.node (some Tryz.f202) .leaf .leaf)) (.node (some Tryz.f106) (.node (some Tryz.f170) .leaf .leaf) .leaf)) (.node (some Tryz.f58) (.node (some Tryz.f90) (.node (some Tryz.f154) .leaf .leaf) .leaf) (.node (some Tryz.f122) (.node (some Tryz.f186) .leaf .leaf) .leaf)))) (.node (some Tryz.f14) (.node (some Tryz.f22) (.node (some Tryz.f38) (.node (some Tryz.f70) (.node (some Tryz.f134) .leaf .leaf) (.node (some Tryz.f198) .leaf .leaf)) (.node (some Tryz.f102) (.node (some Tryz.f166) .leaf .leaf) .leaf)) (.node (some Tryz.f54) (.node (some Tryz.f86) (.node (some Tryz.f150) .leaf .leaf) .leaf) (.node (some Tryz.f118) (.node (some Tryz.f182) .leaf .leaf) .leaf))) (.node (some Tryz.f30) (.node (some Tryz.f46) (.node (some Tryz.f78) (.node (some Tryz.f142) .leaf .leaf) (.node (some Tryz.f206) .leaf .leaf)) (.node (some Tryz.f110) (.node (some Tryz.f174) .leaf .leaf) .leaf)) (.node (some Tryz.f62) (.node (some Tryz.f94) (.node (some Tryz.f158) .leaf .leaf) .leaf) (.node (some Tryz.f126) (.node (some Tryz.f190) .leaf .leaf) .leaf))))))
theorem fnT_list:fnT.toL=[(3,Tryz.f3),(7,Tryz.f7),(15,Tryz.f15),(31,Tryz.f31),(63,Tryz.f63),(127,Tryz.f127),(191,Tryz.f191),(95,Tryz.f95),(159,Tryz.f159),(47,Tryz.f47),(79,Tryz.f79),(143,Tryz.f143),(207,Tryz.f207),(111,Tryz.f111),(175,Tryz.f175),(23,Tryz.f23),(39,Tryz.f39),(71,Tryz.f71),(135,Tryz.f135),(199,Tryz.f199),(103,Tryz.f103),(167,Tryz.f167),(55,Tryz.f55),(87,Tryz.f87),(151,Tryz.f151),(119,Tryz.f119),(183,Tryz.f183),(11,Tryz.f11),(19,Tryz.f19),(35,Tryz.f35),(67,Tryz.f67),(131,Tryz.f131),(195,Tryz.f195),(99,Tryz.f99),(163,Tryz.f163),(51,Tryz.f51),(83,Tryz.f83),(147,Tryz.f147),(115,Tryz.f115),(179,Tryz.f179),(27,Tryz.f27),(43,Tryz.f43),(75,Tryz.f75),(139,Tryz.f139),(203,Tryz.f203),(107,Tryz.f107),(171,Tryz.f171),(59,Tryz.f59),(91,Tryz.f91),(155,Tryz.f155),(123,Tryz.f123),(187,Tryz.f187),(5,Tryz.f5),(9,Tryz.f9),(17,Tryz.f17),(33,Tryz.f33),(65,Tryz.f65),(129,Tryz.f129),(193,Tryz.f193),(97,Tryz.f97),(161,Tryz.f161),(49,Tryz.f49),(81,Tryz.f81),(145,Tryz.f145),(209,Tryz.f209),(113,Tryz.f113),(177,Tryz.f177),(25,Tryz.f25),(41,Tryz.f41),(73,Tryz.f73),(137,Tryz.f137),(201,Tryz.f201),(105,Tryz.f105),(169,Tryz.f169),(57,Tryz.f57),(89,Tryz.f89),(153,Tryz.f153),(121,Tryz.f121),(185,Tryz.f185),(13,Tryz.f13),(21,Tryz.f21),(37,Tryz.f37),(69,Tryz.f69),(133,Tryz.f133),(197,Tryz.f197),(101,Tryz.f101),(165,Tryz.f165),(53,Tryz.f53),(85,Tryz.f85),(149,Tryz.f149),(117,Tryz.f117),(181,Tryz.f181),(29,Tryz.f29),(45,Tryz.f45),(77,Tryz.f77),(141,Tryz.f141),(205,Tryz.f205),(109,Tryz.f109),(173,Tryz.f173),(61,Tryz.f61),(93,Tryz.f93),(157,Tryz.f157),(125,Tryz.f125),(189,Tryz.f189),(4,Tryz.f4),(8,Tryz.f8),(16,Tryz.f16),(32,Tryz.f32),(64,Tryz.f64),(128,Tryz.f128),(192,Tryz.f192),(96,Tryz.f96),(160,Tryz.f160),(48,Tryz.f48),(80,Tryz.f80),(144,Tryz.f144),(208,Tryz.f208),(112,Tryz.f112),(176,Tryz.f176),(24,Tryz.f24),(40,Tryz.f40),(72,Tryz.f72),(136,Tryz.f136),(200,Tryz.f200),(104,Tryz.f104),(168,Tryz.f168),(56,Tryz.f56),(88,Tryz.f88),(152,Tryz.f152),(120,Tryz.f120),(184,Tryz.f184),(12,Tryz.f12),(20,Tryz.f20),(36,Tryz.f36),(68,Tryz.f68),(132,Tryz.f132),(196,Tryz.f196),(100,Tryz.f100),(164,Tryz.f164),(52,Tryz.f52),(84,Tryz.f84),(148,Tryz.f148),(116,Tryz.f116),(180,Tryz.f180),(28,Tryz.f28),(44,Tryz.f44),(76,Tryz.f76),(140,Tryz.f140),(204,Tryz.f204),(108,Tryz.f108),(172,Tryz.f172),(60,Tryz.f60),(92,Tryz.f92),(156,Tryz.f156),(124,Tryz.f124),(188,Tryz.f188),(6,Tryz.f6),(10,Tryz.f10),(18,Tryz.f18),(34,Tryz.f34),(66,Tryz.f66),(130,Tryz.f130),(194,Tryz.f194),(98,Tryz.f98),(162,Tryz.f162),(50,Tryz.f50),(82,Tryz.f82),(146,Tryz.f146),(114,Tryz.f114),(178,Tryz.f178),(26,Tryz.f26),(42,Tryz.f42),(74,Tryz.f74),(138,Tryz.f138),(202,Tryz.f202),(106,Tryz.f106),(170,Tryz.f170),(58,Tryz.f58),(90,Tryz.f90),(154,Tryz.f154),(122,Tryz.f122),(186,Tryz.f186),(14,Tryz.f14),(22,Tryz.f22),(38,Tryz.f38),(70,Tryz.f70),(134,Tryz.f134),(198,Tryz.f198),(102,Tryz.f102),(166,Tryz.f166),(54,Tryz.f54),(86,Tryz.f86),(150,Tryz.f150),(118,Tryz.f118),(182,Tryz.f182),(30,Tryz.f30),(46,Tryz.f46),(78,Tryz.f78),(142,Tryz.f142),(206,Tryz.f206),(110,Tryz.f110),(174,Tryz.f174),(62,Tryz.f62),(94,Tryz.f94),(158,Tryz.f158),(126,Tryz.f126),(190,Tryz.f190)]:=by kernel_rfl
def fnP (k : Nat) (f : Func) : Prop := Tryz.prog.funcs[k]? = some f ∧ (f.name == "runtime.NumGoroutine") = false
theorem fnT_ok : ∀ k f, fnT.get k = some f → Tryz.prog.funcs[k]? = some f ∧ (f.name == "runtime.NumGoroutine") = false := by
 refine Tr.all_get (p:=fnP) ?_
 rw [fnT_list]
 exact .cons ⟨Tryz.func3,by kernel_rfl⟩ (.cons ⟨Tryz.func7,by kernel_rfl⟩ (.cons ⟨Tryz.func15,by kernel_rfl⟩ (.cons ⟨Tryz.func31,by kernel_rfl⟩ (.cons ⟨Tryz.func63,by kernel_rfl⟩ (.cons ⟨Tryz.func127,by kernel_rfl⟩ (.cons ⟨Tryz.func191,by kernel_rfl⟩ (.cons ⟨Tryz.func95,by kernel_rfl⟩ (.cons ⟨Tryz.func159,by kernel_rfl⟩ (.cons ⟨Tryz.func47,by kernel_rfl⟩ (.cons ⟨Tryz.func79,by kernel_rfl⟩ (.cons ⟨Tryz.func143,by kernel_rfl⟩ (.cons ⟨Tryz.func207,by kernel_rfl⟩ (.cons ⟨Tryz.func111,by kernel_rfl⟩ (.cons ⟨Tryz.func175,by kernel_rfl⟩ (.cons ⟨Tryz.func23,by kernel_rfl⟩ (.cons ⟨Tryz.func39,by kernel_rfl⟩ (.cons ⟨Tryz.func71,by kernel_rfl⟩ (.cons ⟨Tryz.func135,by kernel_rfl⟩ (.cons ⟨Tryz.func199,by kernel_rfl⟩ (.cons ⟨Tryz.func103,by kernel_rfl⟩ (.cons ⟨Tryz.func167,by kernel_rfl⟩ (.cons ⟨Tryz.func55,by kernel_rfl⟩ (.cons ⟨Tryz.func87,by kernel_rfl⟩ (.cons ⟨Tryz.func151,by kernel_rfl⟩ (.cons ⟨Tryz.func119,by kernel_rfl⟩ (.cons ⟨Tryz.func183,by kernel_rfl⟩ (.cons ⟨Tryz.func11,by kernel_rfl⟩ (.cons ⟨Tryz.func19,by kernel_rfl⟩ (.cons ⟨Tryz.func35,by kernel_rfl⟩ (.cons ⟨Tryz.func67,by kernel_rfl⟩ (.cons ⟨Tryz.func131,by kernel_rfl⟩ (.cons ⟨Tryz.func195,by kernel_rfl⟩ (.cons ⟨Tryz.func99,by kernel_rfl⟩ (.cons ⟨Tryz.func163,by kernel_rfl⟩ (.cons ⟨Tryz.func51,by kernel_rfl⟩ (.cons ⟨Tryz.func83,by kernel_rfl⟩ (.cons ⟨Tryz.func147,by kernel_rfl⟩ (.cons ⟨Tryz.func115,by kernel_rfl⟩ (.cons ⟨Tryz.func179,by kernel_rfl⟩ (.cons ⟨Tryz.func27,by kernel_rfl⟩ (.cons ⟨Tryz.func43,by kernel_rfl⟩ (.cons ⟨Tryz.func75,by kernel_rfl⟩ (.cons ⟨Tryz.func139,by kernel_rfl⟩ (.cons ⟨Tryz.func203,by kernel_rfl⟩ (.cons ⟨Tryz.func107,by kernel_rfl⟩ (.cons ⟨Tryz.func171,by kernel_rfl⟩ (.cons ⟨Tryz.func59,by kernel_rfl⟩ (.cons ⟨Tryz.func91,by kernel_rfl⟩ (.cons ⟨Tryz.func155,by kernel_rfl⟩ (.cons ⟨Tryz.func123,by kernel_rfl⟩ (.cons ⟨Tryz.func187,by kernel_rfl⟩ (.cons ⟨Tryz.func5,by kernel_rfl⟩ (.cons ⟨Tryz.func9,by kernel_rfl⟩ (.cons ⟨Tryz.func17,by kernel_rfl⟩ (.cons ⟨Tryz.func33,by kernel_rfl⟩ (.cons ⟨Tryz.func65,by kernel_rfl⟩ (.cons ⟨Tryz.func129,by kernel_rfl⟩ (.cons ⟨Tryz.func193,by kernel_rfl⟩ (.cons ⟨Tryz.func97,by kernel_rfl⟩ (.cons ⟨Tryz.func161,by kernel_rfl⟩ (.cons ⟨Tryz.func49,by kernel_rfl⟩ (.cons ⟨Tryz.func81,by kernel_rfl⟩ (.cons ⟨Tryz.func145,by kernel_rfl⟩ (.cons ⟨Tryz.func209,by kernel_rfl⟩ (.cons ⟨Tryz.func113,by kernel_rfl⟩ (.cons ⟨Tryz.func177,by kernel_rfl⟩ (.cons ⟨Tryz.func25,by kernel_rfl⟩ (.cons ⟨Tryz.func41,by kernel_rfl⟩ (.cons ⟨Tryz.func73,by kernel_rfl⟩ (.cons ⟨Tryz.func137,by kernel_rfl⟩ (.cons ⟨Tryz.func201,by kernel_rfl⟩ (.cons ⟨Tryz.func105,by kernel_rfl⟩ (.cons ⟨Tryz.func169,by kernel_rfl⟩ (.cons ⟨Tryz.func57,by kernel_rfl⟩ (.cons ⟨Tryz.func89,by kernel_rfl⟩ (.cons ⟨Tryz.func153,by kernel_rfl⟩ (.cons ⟨Tryz.func121,by kernel_rfl⟩ (.cons ⟨Tryz.func185,by kernel_rfl⟩ (.cons ⟨Tryz.func13,by kernel_rfl⟩ (.cons ⟨Tryz.func21,by kernel_rfl⟩ (.cons ⟨Tryz.func37,by kernel_rfl⟩ (.cons ⟨Tryz.func69,by kernel_rfl⟩ (.cons ⟨Tryz.func133,by kernel_rfl⟩ (.cons ⟨Tryz.func197,by kernel_rfl⟩ (.cons ⟨Tryz.func101,by kernel_rfl⟩ (.cons ⟨Tryz.func165,by kernel_rfl⟩ (.cons ⟨Tryz.func53,by kernel_rfl⟩ (.cons ⟨Tryz.func85,by kernel_rfl⟩ (.cons ⟨Tryz.func149,by kernel_rfl⟩ (.cons ⟨Tryz.func117,by kernel_rfl⟩ (.cons ⟨Tryz.func181,by kernel_rfl⟩ (.cons ⟨Tryz.func29,by kernel_rfl⟩ (.cons ⟨Tryz.func45,by kernel_rfl⟩ (.cons ⟨Tryz.func77,by kernel_rfl⟩ (.cons ⟨Tryz.func141,by kernel_rfl⟩ (.cons ⟨Tryz.func205,by kernel_rfl⟩ (.cons ⟨Tryz.func109,by kernel_rfl⟩ (.cons ⟨Tryz.func173,by kernel_rfl⟩ (.cons ⟨Tryz.func61,by kernel_rfl⟩ (.cons ⟨Tryz.func93,by kernel_rfl⟩ (.cons ⟨Tryz.func157,by kernel_rfl⟩ (.cons ⟨Tryz.func125,by kernel_rfl⟩ (.cons ⟨Tryz.func189,by kernel_rfl⟩ (.cons ⟨Tryz.func4,by kernel_rfl⟩ (.cons ⟨Tryz.func8,by kernel_rfl⟩ (.cons ⟨Tryz.func16,by kernel_rfl⟩ (.cons ⟨Tryz.func32,by kernel_rfl⟩ (.cons ⟨Tryz.func64,by kernel_rfl⟩ (.cons ⟨Tryz.func128,by kernel_rfl⟩ (.cons ⟨Tryz.func192,by kernel_rfl⟩ (.cons ⟨Tryz.func96,by kernel_rfl⟩ (.cons ⟨Tryz.func160,by kernel_rfl⟩ (.cons ⟨Tryz.func48,by kernel_rfl⟩ (.cons ⟨Tryz.func80,by kernel_rfl⟩ (.cons ⟨Tryz.func144,by kernel_rfl⟩ (.cons ⟨Tryz.func208,by kernel_rfl⟩ (.cons ⟨Tryz.func112,by kernel_rfl⟩ (.cons ⟨Tryz.func176,by kernel_rfl⟩ (.cons ⟨Tryz.func24,by kernel_rfl⟩ (.cons ⟨Tryz.func40,by kernel_rfl⟩ (.cons ⟨Tryz.func72,by kernel_rfl⟩ (.cons ⟨Tryz.func136,by kernel_rfl⟩ (.cons ⟨Tryz.func200,by kernel_rfl⟩ (.cons ⟨Tryz.func104,by kernel_rfl⟩ (.cons ⟨Tryz.func168,by kernel_rfl⟩ (.cons ⟨Tryz.func56,by kernel_rfl⟩ (.cons ⟨Tryz.func88,by kernel_rfl⟩ (.cons ⟨Tryz.func152,by kernel_rfl⟩ (.cons ⟨Tryz.func120,by kernel_rfl⟩ (.cons ⟨Tryz.func184,by kernel_rfl⟩ (.cons ⟨Tryz.func12,by kernel_rfl⟩ (.cons ⟨Tryz.func20,by kernel_rfl⟩ (.cons ⟨Tryz.func36,by kernel_rfl⟩ (.cons ⟨Tryz.func68,by kernel_rfl⟩ (.cons ⟨Tryz.func132,by kernel_rfl⟩ (.cons ⟨Tryz.func196,by kernel_rfl⟩ (.cons ⟨Tryz.func100,by kernel_rfl⟩ (.cons ⟨Tryz.func164,by kernel_rfl⟩ (.cons ⟨Tryz.func52,by kernel_rfl⟩ (.cons ⟨Tryz.func84,by kernel_rfl⟩ (.cons ⟨Tryz.func148,by kernel_rfl⟩ (.cons ⟨Tryz.func116,by kernel_rfl⟩ (.cons ⟨Tryz.func180,by kernel_rfl⟩ (.cons ⟨Tryz.func28,by kernel_rfl⟩ (.cons ⟨Tryz.func44,by kernel_rfl⟩ (.cons ⟨Tryz.func76,by kernel_rfl⟩ (.cons ⟨Tryz.func140,by kernel_rfl⟩ (.cons ⟨Tryz.func204,by kernel_rfl⟩ (.cons ⟨Tryz.func108,by kernel_rfl⟩ (.cons ⟨Tryz.func172,by kernel_rfl⟩ (.cons ⟨Tryz.func60,by kernel_rfl⟩ (.cons ⟨Tryz.func92,by kernel_rfl⟩ (.cons ⟨Tryz.func156,by kernel_rfl⟩ (.cons ⟨Tryz.func124,by kernel_rfl⟩ (.cons ⟨Tryz.func188,by kernel_rfl⟩ (.cons ⟨Tryz.func6,by kernel_rfl⟩ (.cons ⟨Tryz.func10,by kernel_rfl⟩ (.cons ⟨Tryz.func18,by kernel_rfl⟩ (.cons ⟨Tryz.func34,by kernel_rfl⟩ (.cons ⟨Tryz.func66,by kernel_rfl⟩ (.cons ⟨Tryz.func130,by kernel_rfl⟩ (.cons ⟨Tryz.func194,by kernel_rfl⟩ (.cons ⟨Tryz.func98,by kernel_rfl⟩ (.cons ⟨Tryz.func162,by kernel_rfl⟩ (.cons ⟨Tryz.func50,by kernel_rfl⟩ (.cons ⟨Tryz.func82,by kernel_rfl⟩ (.cons ⟨Tryz.func146,by kernel_rfl⟩ (.cons ⟨Tryz.func114,by kernel_rfl⟩ (.cons ⟨Tryz.func178,by kernel_rfl⟩ (.cons ⟨Tryz.func26,by kernel_rfl⟩ (.cons ⟨Tryz.func42,by kernel_rfl⟩ (.cons ⟨Tryz.func74,by kernel_rfl⟩ (.cons ⟨Tryz.func138,by kernel_rfl⟩ (.cons ⟨Tryz.func202,by kernel_rfl⟩ (.cons ⟨Tryz.func106,by kernel_rfl⟩ (.cons ⟨Tryz.func170,by kernel_rfl⟩ (.cons ⟨Tryz.func58,by kernel_rfl⟩ (.cons ⟨Tryz.func90,by kernel_rfl⟩ (.cons ⟨Tryz.func154,by kernel_rfl⟩ (.cons ⟨Tryz.func122,by kernel_rfl⟩ (.cons ⟨Tryz.func186,by kernel_rfl⟩ (.cons ⟨Tryz.func14,by kernel_rfl⟩ (.cons ⟨Tryz.func22,by kernel_rfl⟩ (.cons ⟨Tryz.func38,by kernel_rfl⟩ (.cons ⟨Tryz.func70,by kernel_rfl⟩ (.cons ⟨Tryz.func134,by kernel_rfl⟩ (.cons ⟨Tryz.func198,by kernel_rfl⟩ (.cons ⟨Tryz.func102,by kernel_rfl⟩ (.cons ⟨Tryz.func166,by kernel_rfl⟩ (.cons ⟨Tryz.func54,by kernel_rfl⟩ (.cons ⟨Tryz.func86,by kernel_rfl⟩ (.cons ⟨Tryz.func150,by kernel_rfl⟩ (.cons ⟨Tryz.func118,by kernel_rfl⟩ (.cons ⟨Tryz.func182,by kernel_rfl⟩ (.cons ⟨Tryz.func30,by kernel_rfl⟩ (.cons ⟨Tryz.func46,by kernel_rfl⟩ (.cons ⟨Tryz.func78,by kernel_rfl⟩ (.cons ⟨Tryz.func142,by kernel_rfl⟩ (.cons ⟨Tryz.func206,by kernel_rfl⟩ (.cons ⟨Tryz.func110,by kernel_rfl⟩ (.cons ⟨Tryz.func174,by kernel_rfl⟩ (.cons ⟨Tryz.func62,by kernel_rfl⟩ (.cons ⟨Tryz.func94,by kernel_rfl⟩ (.cons ⟨Tryz.func158,by kernel_rfl⟩ (.cons ⟨Tryz.func126,by kernel_rfl⟩ (.cons ⟨Tryz.func190,by kernel_rfl⟩ (.nil)))))))))))))))))))))))))))))))))))))))))))))))))))))))))))))))))))))))))))))))))))))))))))))))))))))))))))))))))))))))))))))))))))))))))))))))))))))))))))))))))))))))))))))))))))))))))))))))))))))))))))))))
noncomputable def ky7:List KK:=[.int .i64,.int .i64,.bool,.int .u8]
theorem ky7_ok:keysOf Tryz.prog 7=some ky7:=by kernel_rfl
noncomputable def ky8:List KK:=[.int .i64,.int .i64,.bool,.int .u8]
theorem ky8_ok:keysOf Tryz.prog 8=some ky8:=by kernel_rfl
noncomputable def ky30:List KK:=[.int .i64,.int .i64]
theorem ky30_ok:keysOf Tryz.prog 30=some ky30:=by kernel_rfl
noncomputable def ky31:List KK:=[.int .i64,.int .i64]
theorem ky31_ok:keysOf Tryz.prog 31=some ky31:=by kernel_rfl
noncomputable def ky32:List KK:=[.int .i64,.int .i64,.int .i64,.int .i64,.int .i64,.int .i64,.int .i64,.int .i64,.int .i64,.int .i64,.int .i64,.int .i64,.int .i64,.int .i64,.int .i64,.int .i64]
theorem ky32_ok:keysOf Tryz.prog 32=some ky32:=by kernel_rfl
noncomputable def ky36:List KK:=[.int .i64,.int .i64,.int .i64,.bool]
theorem ky36_ok:keysOf Tryz.prog 36=some ky36:=by kernel_rfl
noncomputable def ky37:List KK:=[.int .i64,.int .i64,.int .i64,.bool]
theorem ky37_ok:keysOf Tryz.prog 37=some ky37:=by kernel_rfl
noncomputable def ky86:List KK:=[.int .i64,.int .i64,.int .i64,.int .i64,.int .i64,.int .i64,.int .i64,.int .i64]
theorem ky86_ok:keysOf Tryz.prog 86=some ky86:=by kernel_rfl
noncomputable def ky87:List KK:=[.bool,.bool,.bool,.bool,.bool,.bool,.bool,.bool]
theorem ky87_ok:keysOf Tryz.prog 87=some ky87:=by kernel_rfl
noncomputable def ky106:List KK:=[.int .i64,.string]
theorem ky106_ok:keysOf Tryz.prog 106=some ky106:=by kernel_rfl
noncomputable def ky107:List KK:=[.int .i64,.string]
theorem ky107_ok:keysOf Tryz.prog 107=some ky107:=by kernel_rfl
noncomputable def ky125:List KK:=[.string,.string]
theorem ky125_ok:keysOf Tryz.prog 125=some ky125:=by kernel_rfl
noncomputable def ky126:List KK:=[.string,.string]
theorem ky126_ok:keysOf Tryz.prog 126=some ky126:=by kernel_rfl
noncomputable def ky128:List KK:=[.int .i64,.int .i64,.int .i64,.bool,.int .i64]
theorem ky128_ok:keysOf Tryz.prog 128=some ky128:=by kernel_rfl
noncomputable def ky129:List KK:=[.int .i64,.int .i64,.int .i64,.bool,.int .i64]
theorem ky129_ok:keysOf Tryz.prog 129=some ky129:=by kernel_rfl
noncomputable def ky130:List KK:=[.int .i64,.int .i64,.int .i64,.bool,.int .i64,.int .i64,.int .i64,.int .i64,.bool,.int .i64,.int .i64,.int .i64,.int .i64,.bool,.int .i64,.int .i64,.int .i64,.int .i64,.bool,.int .i64,.int .i64,.int .i64,.int .i64,.bool,.int .i64,.int .i64,.int .i64,.int .i64,.bool,.int .i64,.int .i64,.int .i64,.int .i64,.bool,.int .i64,.int .i64,.int .i64,.int .i64,.bool,.int .i64]
theorem ky130_ok:keysOf Tryz.prog 130=some ky130:=by kernel_rfl
noncomputable def ky144:List KK:=[.int .i64,.string,.int .i64,.bool,.int .i64]
theorem ky144_ok:keysOf Tryz.prog 144=some ky144:=by kernel_rfl
noncomputable def ky145:List KK:=[.int .i64,.string,.int .i64,.bool,.int .i64]
theorem ky145_ok:keysOf Tryz.prog 145=some ky145:=by kernel_rfl
noncomputable def ky192:List KK:=[.int .i64,.int .i64,.int .i64]
theorem ky192_ok:keysOf Tryz.prog 192=some ky192:=by kernel_rfl
noncomputable def ky212:List KK:=[.int .i64,.int .i64,.int .i64]
theorem ky212_ok:keysOf Tryz.prog 212=some ky212:=by kernel_rfl
noncomputable def ky214:List KK:=[.string,.int .i64,.string]
theorem ky214_ok:keysOf Tryz.prog 214=some ky214:=by kernel_rfl
noncomputable def ky215:List KK:=[.string,.int .i64,.string]
theorem ky215_ok:keysOf Tryz.prog 215=some ky215:=by kernel_rfl
noncomputable def ky245:List KK:=[.int .i64,.int .i64,.int .i64,.bool]
theorem ky245_ok:keysOf Tryz.prog 245=some ky245:=by kernel_rfl
noncomputable def ky246:List KK:=[.int .i64,.int .i64,.int .i64,.bool]
theorem ky246_ok:keysOf Tryz.prog 246=some ky246:=by kernel_rfl
noncomputable def kyT:Tr (List KK):=.node none (.node none (.node none (.node (some ky7) (.node none (.node (some ky31) .leaf .leaf) .leaf) (.node none .leaf (.node none (.node (some ky87) .leaf (.node (some ky215) .leaf .leaf)) .leaf))) (.node none .leaf (.node none (.node none .leaf (.node (some ky107) .leaf .leaf)) .leaf))) (.node none (.node none (.node none (.node none (.node none (.node (some ky129) .leaf .leaf) .leaf) .leaf) (.node none (.node none (.node (some ky145) .leaf .leaf) .leaf) .leaf)) .leaf) (.node none (.node none (.node (some ky37) .leaf .leaf) (.node none .leaf (.node none .leaf (.node (some ky245) .leaf .leaf)))) (.node none .leaf (.node none .leaf (.node (some ky125) .leaf .leaf)))))) (.node none (.node none (.node (some ky8) (.node none (.node (some ky32) (.node none (.node (some ky128) .leaf .leaf) (.node (some ky192) .leaf .leaf)) .leaf) (.node none (.node none (.node (some ky144) .leaf .leaf) .leaf) .leaf)) .leaf) (.node none (.node none (.node (some ky36) .leaf .leaf) (.node none (.node none .leaf (.node (some ky212) .leaf .leaf)) .leaf)) .leaf)) (.node none (.node none (.node none (.node none (.node none (.node (some ky130) .leaf .leaf) .leaf) .leaf) .leaf) (.node none (.node none .leaf (.node (some ky106) .leaf .leaf)) .leaf)) (.node none (.node none .leaf (.node none (.node (some ky86) .leaf (.node (some ky214) .leaf .leaf)) (.node none .leaf (.node (some ky246) .leaf .leaf)))) (.node (some ky30) .leaf (.node none .leaf (.node (some ky126) .leaf .leaf))))))
theorem kyT_list:kyT.toL=[(7,ky7),(31,ky31),(87,ky87),(215,ky215),(107,ky107),(129,ky129),(145,ky145),(37,ky37),(245,ky245),(125,ky125),(8,ky8),(32,ky32),(128,ky128),(192,ky192),(144,ky144),(36,ky36),(212,ky212),(130,ky130),(106,ky106),(86,ky86),(214,ky214),(246,ky246),(30,ky30),(126,ky126)]:=by kernel_rfl
theorem kyT_ok:∀ t ks,kyT.get t=some ks→KeyOk Tryz.prog t ks:=by
 refine Tr.all_get (p:=fun t ks=>KeyOk Tryz.prog t ks) ?_
 rw [kyT_list]
 exact .cons (keysOf_ok ky7_ok) (.cons (keysOf_ok ky31_ok) (.cons (keysOf_ok ky87_ok) (.cons (keysOf_ok ky215_ok) (.cons (keysOf_ok ky107_ok) (.cons (keysOf_ok ky129_ok) (.cons (keysOf_ok ky145_ok) (.cons (keysOf_ok ky37_ok) (.cons (keysOf_ok ky245_ok) (.cons (keysOf_ok ky125_ok) (.cons (keysOf_ok ky8_ok) (.cons (keysOf_ok ky32_ok) (.cons (keysOf_ok ky128_ok) (.cons (keysOf_ok ky192_ok) (.cons (keysOf_ok ky144_ok) (.cons (keysOf_ok ky36_ok) (.cons (keysOf_ok ky212_ok) (.cons (keysOf_ok ky130_ok) (.cons (keysOf_ok ky106_ok) (.cons (keysOf_ok ky86_ok) (.cons (keysOf_ok ky214_ok) (.cons (keysOf_ok ky246_ok) (.cons (keysOf_ok ky30_ok) (.cons (keysOf_ok ky126_ok) (.nil))))))))))))))))))))))))
noncomputable def CX (σ:Sig) (kn:List (BExp × Bool)) (hkn:Known σ kn):Ctx Tryz.prog:=⟨tiT.get,tiT_ok,kyT.get,kyT_ok,σ,kn,hkn⟩
theorem mixed:Tryz.prog.follows .mixedOrders=true:=by kernel_rfl
end Go.Proofs.YthdcghnjndhecaaGreat.Ev
namespace Go.Proofs.YthdcghnjndhecaaGreat.Ev
set_option maxRecDepth 100000
set_option maxHeartbeats 4000000
instance:Still:=⟨fun f=>Nat.beq f 15⟩
abbrev n_law15_CascadeOrder:Nat:=4
abbrev n_law15_alive:Nat:=9
abbrev n_cascade_Winners:Nat:=12
abbrev n_dom_New:Nat:=14
abbrev n_law15_sels:Nat:=15
abbrev n_ref1_Sheet:Nat:=23
abbrev n_cascade_winners:Nat:=27
abbrev n_cascade_candidates:Nat:=28
abbrev n_cascade_Winners_1:Nat:=29
abbrev n_dom_Tree_put:Nat:=31
abbrev n_ref1_Selectors:Nat:=32
abbrev n_ref1_Tokens:Nat:=33
abbrev n_ref1_Prepare:Nat:=34
abbrev n_ref1_Rules:Nat:=47
abbrev n_ref1_Sets:Nat:=48
abbrev n_ref1_Decls:Nat:=49
abbrev n_cascade_candidate_beats:Nat:=52
abbrev n_cascade_candidates_1:Nat:=53
abbrev n_weigh_Best:Nat:=54
abbrev n_dom_lowered:Nat:=56
abbrev n_dom_copied:Nat:=77
abbrev n_dom_Tree_at:Nat:=78
abbrev n_match_Selector:Nat:=86
abbrev n_weigh_Of:Nat:=87
abbrev n_text_Lower:Nat:=89
abbrev n_slices_Clone_string_string:Nat:=106
abbrev n_slices_Clone_api_Pair_api_Pair:Nat:=107
abbrev n_match_Any:Nat:=115
abbrev n_weigh_of:Nat:=116
abbrev n_match_is:Nat:=136
abbrev n_match_begin:Nat:=137
abbrev n_match_may:Nat:=138
abbrev n_match_asked_any:Nat:=139
abbrev n_match_asked_add:Nat:=140
abbrev n_weigh_sums_compound:Nat:=141
abbrev n_weigh_sums_weight:Nat:=142
abbrev n_dom_Tree_Len:Nat:=156
abbrev n_match_mayCompound:Nat:=157
abbrev n_match_asked_is:Nat:=158
abbrev n_weigh_sums_add:Nat:=159
abbrev n_weigh_capped_int:Nat:=160
abbrev n_match_asked_once:Nat:=173
abbrev n_match_asked_is_1:Nat:=174
abbrev n_match_asked_compound:Nat:=175
abbrev n_match_asked_ahead:Nat:=176
abbrev n_match_asked_plain:Nat:=179
abbrev n_match_asked_pseudo:Nat:=180
abbrev n_match_asked_stands:Nat:=181
abbrev n_match_asked_ahead_1:Nat:=182
abbrev n_dom_Tree_View:Nat:=183
abbrev n_match_has:Nat:=184
abbrev n_match_attr:Nat:=185
abbrev n_dom_Tree_Parent:Nat:=186
abbrev n_dom_Tree_Place:Nat:=187
abbrev n_match_asked_last:Nat:=188
abbrev n_dom_Tree_Child:Nat:=189
abbrev n_match_nth:Nat:=190
abbrev n_dom_Tree_Before:Nat:=191
abbrev n_match_so:Nat:=192
abbrev n_match_word:Nat:=193
abbrev n_strings_HasPrefix:Nat:=194
abbrev n_strings_HasSuffix:Nat:=195
abbrev n_strings_Contains:Nat:=196
abbrev n_match_words:Nat:=197
abbrev n_internal_stringslite_HasPrefix:Nat:=198
abbrev n_internal_stringslite_HasSuffix:Nat:=199
abbrev n_match_words_1:Nat:=201
abbrev n_match_white:Nat:=202
abbrev T_int:Nat:=3
abbrev T_bool:Nat:=4
abbrev T_string:Nat:=9
abbrev T_sl_api_Node:Nat:=22
abbrev T_sl_api_Rule:Nat:=23
abbrev T_api_Value:Nat:=31
abbrev T_api_Set:Nat:=37
abbrev T_sl_string:Nat:=38
abbrev T_sl_api_Pair:Nat:=39
abbrev T_api_Node:Nat:=41
abbrev T_sl_api_Selector:Nat:=45
abbrev T_sl_api_Set:Nat:=47
abbrev T_api_Rule:Nat:=49
abbrev T_sl_api_Attr:Nat:=53
abbrev T_sl_api_Pseudo:Nat:=54
abbrev T_api_Compound:Nat:=56
abbrev T_api_Part:Nat:=58
abbrev T_sl_api_Part:Nat:=59
abbrev T_api_Selector:Nat:=61
abbrev T_api_Pair:Nat:=126
abbrev T_api_Pseudo:Nat:=167
abbrev T_api_Attr:Nat:=215
theorem T_int_is:∃ i,tiT.get T_int=some i∧i.d=.int .i64∧i.size=1:=⟨_,(by kernel_rfl:tiT.get T_int=some ti3),by kernel_rfl,by kernel_rfl⟩
theorem T_bool_is:∃ i,tiT.get T_bool=some i∧i.d=.bool∧i.size=1:=⟨_,(by kernel_rfl:tiT.get T_bool=some ti4),by kernel_rfl,by kernel_rfl⟩
theorem T_api_Value_is:∃ i,tiT.get T_api_Value=some i∧i.d=.struct [(0,T_int),(1,T_int)]∧i.size=2:=⟨_,(by kernel_rfl:tiT.get T_api_Value=some ti31),by kernel_rfl,by kernel_rfl⟩
theorem T_api_Set_is:∃ i,tiT.get T_api_Set=some i∧i.d=.struct [(0,T_int),(1,T_api_Value),(3,T_bool)]∧i.size=4:=⟨_,(by kernel_rfl:tiT.get T_api_Set=some ti37),by kernel_rfl,by kernel_rfl⟩
end Go.Proofs.YthdcghnjndhecaaGreat.Ev
namespace Go.Proofs.YthdcghnjndhecaaGreat.Ev
set_option maxRecDepth 100000
set_option maxHeartbeats 4000000
set_option linter.unusedVariables false
variable {σ:Sig}
noncomputable def law15_CascadeOrder.code:Code:=bodyOf Tryz.f4
noncomputable def law15_CascadeOrder.J0 (σ:Sig) (K:AV→Hp→Prop) (y2 y3 y4 y5 y10 y11 y13 y17 y18 y19 y67:AV) (H:Hp):Prop:=∀ js:Nat→AV,wp (CX σ [] known_nil) 147573952589677341756 (sR (sR (sR (sR (sR (sR (sR law15_CascadeOrder.code))))))) [js 0,js 1,y2,y3,y4,y5,js 6,js 7,js 8,js 9,y10,y11,js 12,y13,js 14,js 15,js 16,y17,y18,y19,js 20,js 21,js 22,js 23,js 24,js 25,js 26,js 27,js 28,js 29,js 30,js 31,js 32,js 33,js 34,js 35,js 36,js 37,js 38,js 39,js 40,js 41,js 42,js 43,js 44,js 45,js 46,js 47,js 48,js 49,js 50,js 51,js 52,js 53,js 54,js 55,js 56,js 57,js 58,js 59,js 60,js 61,js 62,js 63,js 64,js 65,js 66,y67,js 68,js 69,js 70,js 71,js 72,js 73,js 74,js 75,js 76,js 77,js 78,js 79,js 80,js 81,js 82,js 83,js 84,js 85,js 86,js 87,js 88,js 89,js 90,js 91,js 92,js 93] H (fnQ (CX σ [] known_nil).ti Tryz.f4.results.toList K)
noncomputable def law15_CascadeOrder.J1 (σ:Sig) (K:AV→Hp→Prop) (y2 y3 y4 y5 y10 y11 y13 y17 y18 y19 y67:AV) (H:Hp):Prop:=∀ js:Nat→AV,wp (CX σ [] known_nil) 147573952589677341756 (sR (sR (sR (sR (sR (sR (sR (sR (sR (sR (sR (sR (sR law15_CascadeOrder.code))))))))))))) [js 0,js 1,y2,y3,y4,y5,js 6,js 7,js 8,js 9,y10,y11,js 12,y13,js 14,js 15,js 16,y17,y18,y19,js 20,js 21,js 22,js 23,js 24,js 25,js 26,js 27,js 28,js 29,js 30,js 31,js 32,js 33,js 34,js 35,js 36,js 37,js 38,js 39,js 40,js 41,js 42,js 43,js 44,js 45,js 46,js 47,js 48,js 49,js 50,js 51,js 52,js 53,js 54,js 55,js 56,js 57,js 58,js 59,js 60,js 61,js 62,js 63,js 64,js 65,js 66,y67,js 68,js 69,js 70,js 71,js 72,js 73,js 74,js 75,js 76,js 77,js 78,js 79,js 80,js 81,js 82,js 83,js 84,js 85,js 86,js 87,js 88,js 89,js 90,js 91,js 92,js 93] H (fnQ (CX σ [] known_nil).ti Tryz.f4.results.toList K)
noncomputable def law15_CascadeOrder.J2 (σ:Sig) (K:AV→Hp→Prop) (y2 y3 y4 y5 y10 y11 y13 y17 y18 y19 y67:AV) (H:Hp):Prop:=∀ js:Nat→AV,wp (CX σ [] known_nil) 147573952589677341756 (sR (bB (sL (sR (sR (sR (sR (sR (sR (sR (sR (sR (sR (sR (sR (sR (sR (sR law15_CascadeOrder.code)))))))))))))))))) [js 0,js 1,y2,y3,y4,y5,js 6,js 7,js 8,js 9,y10,y11,js 12,y13,js 14,js 15,js 16,y17,y18,y19,js 20,js 21,js 22,js 23,js 24,js 25,js 26,js 27,js 28,js 29,js 30,js 31,js 32,js 33,js 34,js 35,js 36,js 37,js 38,js 39,js 40,js 41,js 42,js 43,js 44,js 45,js 46,js 47,js 48,js 49,js 50,js 51,js 52,js 53,js 54,js 55,js 56,js 57,js 58,js 59,js 60,js 61,js 62,js 63,js 64,js 65,js 66,y67,js 68,js 69,js 70,js 71,js 72,js 73,js 74,js 75,js 76,js 77,js 78,js 79,js 80,js 81,js 82,js 83,js 84,js 85,js 86,js 87,js 88,js 89,js 90,js 91,js 92,js 93] H (fun e T1 H1=>(nx (fnQ (CX σ [] known_nil).ti Tryz.f4.results.toList K) fun T1 H1=>∀ js,wp (CX σ [] known_nil) 147573952589677341756 (sR (sR (sR (sR (sR (sR (sR (sR (sR (sR (sR (sR (sR (sR (sR (sR law15_CascadeOrder.code)))))))))))))))) (maskA 147573952589677341756 js 0 T1) H1 (fnQ (CX σ [] known_nil).ti Tryz.f4.results.toList K)) (unblock 0 e) T1 H1)
noncomputable def law15_CascadeOrder.J3 (σ:Sig) (K:AV→Hp→Prop) (y2 y3 y4 y5 y10 y11 y13 y17 y18 y19 y67:AV) (H:Hp):Prop:=∀ js:Nat→AV,wp (CX σ [] known_nil) 147573952589677341756 (sR (sR (sR (sR (sR (sR (sR (sR (sR (sR (sR (sR (sR (sR (sR (sR law15_CascadeOrder.code)))))))))))))))) [js 0,js 1,y2,y3,y4,y5,js 6,js 7,js 8,js 9,y10,y11,js 12,y13,js 14,js 15,js 16,y17,y18,y19,js 20,js 21,js 22,js 23,js 24,js 25,js 26,js 27,js 28,js 29,js 30,js 31,js 32,js 33,js 34,js 35,js 36,js 37,js 38,js 39,js 40,js 41,js 42,js 43,js 44,js 45,js 46,js 47,js 48,js 49,js 50,js 51,js 52,js 53,js 54,js 55,js 56,js 57,js 58,js 59,js 60,js 61,js 62,js 63,js 64,js 65,js 66,y67,js 68,js 69,js 70,js 71,js 72,js 73,js 74,js 75,js 76,js 77,js 78,js 79,js 80,js 81,js 82,js 83,js 84,js 85,js 86,js 87,js 88,js 89,js 90,js 91,js 92,js 93] H (fnQ (CX σ [] known_nil).ti Tryz.f4.results.toList K)
theorem law15_CascadeOrder.J0_step {K:AV→Hp→Prop} {y2 y3 y4 y5 y10 y11 y13 y17 y18 y19 y67:AV} {H:Hp} (h:bnd (bldR [.lit (.int .i64 0),.lit (.string ⟨#[]⟩),.lit (.string ⟨#[]⟩),.lit (.slice none 0 0),.lit (.slice none 0 0)] [(0,1,(.lit (.int .i64 (-1)))),(1,1,(.lit (.string ⟨#[120]⟩))),(2,1,(.lit (.string ⟨#[105]⟩)))]) fun l1=>bnd (bldSlR [.int .i64 0,.string ⟨#[]⟩,.string ⟨#[]⟩,.slice none 0 0,.slice none 0 0] 5 1 H [(0,5,(.agg l1))]) fun p2=>callK Tryz.prog σ n_dom_New [p2.1] p2.2 fun x3 H4=>bnd (exR x3 0) fun x5=>bnd (exR x3 1) fun x6=>callQ Tryz.prog σ n_law15_sels [y10] H4 fun x7 H8=>bnd (ldA true 4 H8 y4) fun x9=>bnd (bldSlR [.int .i64 0,.int .i64 0,.int .i64 0,.bool false] 4 1 H8 [(0,4,x9)]) fun p10=>bnd (bldR [.lit (.slice none 0 0),.lit (.slice none 0 0)] [(0,1,x7),(1,1,p10.1)]) fun l11=>allocK [.lit (.slice none 0 0),.lit (.slice none 0 0)] p10.2 fun x12 H13=>bnd (stA 2 H13 x12 (.agg l11)) fun H14=>callQ Tryz.prog σ n_law15_sels [y11] H14 fun x15 H16=>bnd (ldA true 4 H16 y5) fun x17=>bnd (bldSlR [.int .i64 0,.int .i64 0,.int .i64 0,.bool false] 4 1 H16 [(0,4,x17)]) fun p18=>bnd (bldR [.lit (.slice none 0 0),.lit (.slice none 0 0)] [(0,1,x15),(1,1,p18.1)]) fun l19=>allocK [.lit (.slice none 0 0),.lit (.slice none 0 0)] p18.2 fun x20 H21=>bnd (stA 2 H21 x20 (.agg l19)) fun H22=>bnd (ldA true 2 H22 x12) fun x23=>bnd (ldA true 2 H22 x20) fun x24=>bnd (bldSlR [.slice none 0 0,.slice none 0 0] 2 2 H22 [(0,2,x23),(2,2,x24)]) fun p25=>ifB y3 (bnd (ldA true 2 p25.2 x20) fun x26=>bnd (ldA true 2 p25.2 x12) fun x27=>bnd (bldSlR [.slice none 0 0,.slice none 0 0] 2 2 p25.2 [(0,2,x26),(2,2,x27)]) fun p28=>law15_CascadeOrder.J1 σ K y2 y3 y4 y5 y10 y11 x5 p28.1 y18 y19 y67 p28.2) (law15_CascadeOrder.J1 σ K y2 y3 y4 y5 y10 y11 x5 p25.1 y18 y19 y67 p25.2)):law15_CascadeOrder.J0 σ K y2 y3 y4 y5 y10 y11 y13 y17 y18 y19 y67 H :=
 fun js=>Eq.mpr (by kernel_rfl) h
theorem law15_CascadeOrder.J1_step {K:AV→Hp→Prop} {y2 y3 y4 y5 y10 y11 y13 y17 y18 y19 y67:AV} {H:Hp} (h:callK Tryz.prog σ n_cascade_Winners [y13,(.lit (.int .i64 0)),y17] H fun x1 H2=>allocK (List.replicate 16 (.lit (.int .i64 0))) H2 fun x3 H4=>bnd (stA 16 H4 x3 x1) fun H5=>bnd (shiftA y5 1) fun x6=>bnd (ldA true 2 H5 x6) fun x7=>allocK [.lit (.int .i64 0),.lit (.int .i64 0)] H5 fun x8 H9=>bnd (stA 2 H9 x8 x7) fun H10=>bnd (shiftA y4 3) fun x11=>bnd (ldA false 1 H10 x11) fun x12=>ifB x12 (bnd (shiftA y5 3) fun x13=>bnd (ldA false 1 H10 x13) fun x14=>bnd (unR .not x14) fun x15=>ifB x15 (law15_CascadeOrder.J2 σ K y2 y3 y4 y5 y10 y11 y13 y17 x3 x8 x15 H10) (bnd (shiftA y4 3) fun x16=>bnd (ldA false 1 H10 x16) fun x17=>bnd (shiftA y5 3) fun x18=>bnd (ldA false 1 H10 x18) fun x19=>bnd (eqBoolR .eql x17 x19) fun x20=>ifB x20 (ifB y2 (law15_CascadeOrder.J2 σ K y2 y3 y4 y5 y10 y11 y13 y17 x3 x8 (.lit (.bool true)) H10) (law15_CascadeOrder.J2 σ K y2 y3 y4 y5 y10 y11 y13 y17 x3 x8 y3 H10)) (law15_CascadeOrder.J2 σ K y2 y3 y4 y5 y10 y11 y13 y17 x3 x8 (.lit (.bool false)) H10))) (bnd (shiftA y4 3) fun x21=>bnd (ldA false 1 H10 x21) fun x22=>bnd (shiftA y5 3) fun x23=>bnd (ldA false 1 H10 x23) fun x24=>bnd (eqBoolR .eql x22 x24) fun x25=>ifB x25 (ifB y2 (law15_CascadeOrder.J2 σ K y2 y3 y4 y5 y10 y11 y13 y17 x3 x8 (.lit (.bool true)) H10) (law15_CascadeOrder.J2 σ K y2 y3 y4 y5 y10 y11 y13 y17 x3 x8 y3 H10)) (law15_CascadeOrder.J2 σ K y2 y3 y4 y5 y10 y11 y13 y17 x3 x8 (.lit (.bool false)) H10))):law15_CascadeOrder.J1 σ K y2 y3 y4 y5 y10 y11 y13 y17 y18 y19 y67 H :=
 fun js=>Eq.mpr (by kernel_rfl) h
theorem law15_CascadeOrder.J2_step {K:AV→Hp→Prop} {y2 y3 y4 y5 y10 y11 y13 y17 y18 y19 y67:AV} {H:Hp} (h:ifB y67 (bnd (shiftA y4 1) fun x1=>bnd (ldA true 2 H x1) fun x2=>bnd (stA 2 H y19 x2) fun H3=>law15_CascadeOrder.J3 σ K y2 y3 y4 y5 y10 y11 y13 y17 y18 y19 y67 H3) (law15_CascadeOrder.J3 σ K y2 y3 y4 y5 y10 y11 y13 y17 y18 y19 y67 H)):law15_CascadeOrder.J2 σ K y2 y3 y4 y5 y10 y11 y13 y17 y18 y19 y67 H :=
 fun js=>Eq.mpr (by kernel_rfl) h
theorem law15_CascadeOrder.J3_step {K:AV→Hp→Prop} {y2 y3 y4 y5 y10 y11 y13 y17 y18 y19 y67:AV} {H:Hp} (h:bnd (shiftA y4 0) fun x1=>bnd (ldA false 1 H x1) fun x2=>bnd (ixaArr 8 2 y18 x2) fun x3=>bnd (ldA true 2 H x3) fun x4=>bnd (ldA true 2 H y19) fun x5=>bnd (eqAggR [.int .i64,.int .i64] .eql x4 x5) fun x6=>K x6 H):law15_CascadeOrder.J3 σ K y2 y3 y4 y5 y10 y11 y13 y17 y18 y19 y67 H :=
 fun js=>Eq.mpr (by kernel_rfl) h
theorem law15_CascadeOrder.run {a0 a1 a2 a3:AV} {H:Hp} {K:AV→Hp→Prop} (h:boxK a0 H fun x1 H2=>boxK a1 H2 fun x3 H4=>callK Tryz.prog σ n_law15_alive [] H4 fun x5 H6=>bnd (unR .not x5) fun x7=>ifB x7 (K x5 H6) (bnd (shiftA x1 0) fun x8=>bnd (ldA false 1 H6 x8) fun x9=>bnd (binR .lss x9 (.lit (.int .i64 0))) fun x10=>ifB x10 (K x5 H6) (bnd (shiftA x1 0) fun x11=>bnd (ldA false 1 H6 x11) fun x12=>bnd (binR .gtr x12 (.lit (.int .i64 7))) fun x13=>ifB x13 (K x5 H6) (bnd (shiftA x1 0) fun x14=>bnd (ldA false 1 H6 x14) fun x15=>bnd (shiftA x3 0) fun x16=>bnd (stA 1 H6 x16 x15) fun H17=>ifB a2 (law15_CascadeOrder.J0 σ K a2 a3 x1 x3 (.lit (.string ⟨#[35,105]⟩)) (.lit (.string ⟨#[120]⟩)) (.lit undef) (.lit undef) (.lit undef) (.lit undef) (.lit undef) H17) (law15_CascadeOrder.J0 σ K a2 a3 x1 x3 (.lit (.string ⟨#[120]⟩)) (.lit (.string ⟨#[120]⟩)) (.lit undef) (.lit undef) (.lit undef) (.lit undef) (.lit undef) H17))))):∃ r H1,Good Tryz.prog σ n_law15_CascadeOrder [a0,a1,a2,a3] H r H1∧K r H1 :=
 good_of_wp (CX σ [] known_nil) mixed 147573952589677341756 (fn:=Tryz.f4) (f:=n_law15_CascadeOrder) (c:=law15_CascadeOrder.code) (fnT_ok 4 _ (by kernel_rfl)).1 (by kernel_rfl) (fnT_ok 4 _ (by kernel_rfl)).2 (Eq.mpr (by kernel_rfl) h)
noncomputable def law15_alive.code:Code:=bodyOf Tryz.f9
theorem law15_alive.run {H:Hp} {K:AV→Hp→Prop} (h:bnd (bldSlR [.int .u8 0] 1 24 H [(0,1,(.lit (.int .u8 97))),(1,1,(.lit (.int .u8 123))),(2,1,(.lit (.int .u8 119))),(3,1,(.lit (.int .u8 105))),(4,1,(.lit (.int .u8 100))),(5,1,(.lit (.int .u8 116))),(6,1,(.lit (.int .u8 104))),(7,1,(.lit (.int .u8 58))),(8,1,(.lit (.int .u8 49))),(9,1,(.lit (.int .u8 112))),(10,1,(.lit (.int .u8 120))),(11,1,(.lit (.int .u8 125))),(12,1,(.lit (.int .u8 97))),(13,1,(.lit (.int .u8 123))),(14,1,(.lit (.int .u8 119))),(15,1,(.lit (.int .u8 105))),(16,1,(.lit (.int .u8 100))),(17,1,(.lit (.int .u8 116))),(18,1,(.lit (.int .u8 104))),(19,1,(.lit (.int .u8 58))),(20,1,(.lit (.int .u8 50))),(21,1,(.lit (.int .u8 112))),(22,1,(.lit (.int .u8 120))),(23,1,(.lit (.int .u8 125)))]) fun p1=>bnd (cvSame p1.2 p1.1) fun p2=>callK Tryz.prog σ n_ref1_Sheet [p2.1] p2.2 fun x3 H4=>bnd (bldR [.lit (.int .i64 0),.lit (.string ⟨#[]⟩),.lit (.string ⟨#[]⟩),.lit (.slice none 0 0),.lit (.slice none 0 0)] [(0,1,(.lit (.int .i64 (-1)))),(1,1,(.lit (.string ⟨#[97]⟩)))]) fun l5=>bnd (bldSlR [.int .i64 0,.string ⟨#[]⟩,.string ⟨#[]⟩,.slice none 0 0,.slice none 0 0] 5 1 H4 [(0,5,(.agg l5))]) fun p6=>callK Tryz.prog σ n_dom_New [p6.1] p6.2 fun x7 H8=>bnd (exR x7 0) fun x9=>bnd (exR x7 1) fun x10=>callK Tryz.prog σ n_cascade_Winners [x9,(.lit (.int .i64 0)),x3] H8 fun x11 H12=>allocK (List.replicate 16 (.lit (.int .i64 0))) H12 fun x13 H14=>bnd (stA 16 H14 x13 x11) fun H15=>bnd (ixaArr 8 2 x13 (.lit (.int .i64 4))) fun x16=>bnd (ldA true 2 H15 x16) fun x17=>bnd (bldR [.lit (.int .i64 0),.lit (.int .i64 0)] [(0,1,(.lit (.int .i64 2))),(1,1,(.lit (.int .i64 2000)))]) fun l18=>bnd (eqAggR [.int .i64,.int .i64] .eql x17 (.agg l18)) fun x19=>K x19 H15):∃ r H1,Good Tryz.prog σ n_law15_alive [] H r H1∧K r H1 :=
 good_of_wp (CX σ [] known_nil) mixed 0 (fn:=Tryz.f9) (f:=n_law15_alive) (c:=law15_alive.code) (fnT_ok 9 _ (by kernel_rfl)).1 (by kernel_rfl) (fnT_ok 9 _ (by kernel_rfl)).2 (Eq.mpr (by kernel_rfl) h)
noncomputable def cascade_Winners.code:Code:=bodyOf Tryz.f12
noncomputable def cascade_Winners.L0 (σ:Sig) (K:AV→Hp→Prop) (y0 y1 y2 y6 y7 y10 y11:AV) (H:Hp):Prop:=∀ js:Nat→AV,LoopP (CX σ [] known_nil) (lB (bB (sR (sL (sR (sR cascade_Winners.code)))))) [y0,y1,y2,js 3,js 4,js 5,y6,y7,js 8,js 9,y10,y11,js 12,js 13,js 14,js 15,js 16,js 17,js 18,js 19,js 20,js 21,js 22,js 23,js 24] H (fun e T1 H1=>(nx (fnQ (CX σ [] known_nil).ti Tryz.f12.results.toList K) fun T1 H1=>wp (CX σ [] known_nil) 3271 (sR (sR (sR cascade_Winners.code))) T1 H1 (fnQ (CX σ [] known_nil).ti Tryz.f12.results.toList K)) (unblock 0 e) T1 H1)
theorem cascade_Winners.L0_step {K:AV→Hp→Prop} {y0 y1 y2 y6 y7 y10 y11:AV} {H:Hp} (h:bnd (binR .lss y11 y10) fun x1=>ifB x1 (bnd (bldSlR [.int .i64 0] 1 1 H [(0,1,y11)]) fun p2=>bnd (appR false 1 8 p2.2 y7 p2.1) fun p3=>bnd (binR .add y11 (.lit (.int .i64 1))) fun x4=>cascade_Winners.L0 σ K y0 y1 y2 y6 p3.1 y10 x4 p3.2) (callK Tryz.prog σ n_cascade_candidates [y0,y1,y2,y7,(.fn n_cascade_Winners_1 [])] H fun x5 H6=>callK Tryz.prog σ n_cascade_winners [x5] H6 fun x7 H8=>bnd (stA 16 H8 y6 x7) fun H9=>bnd (ldA true 16 H9 y6) fun r10=>K r10 H9)):cascade_Winners.L0 σ K y0 y1 y2 y6 y7 y10 y11 H :=
 fun js=>LoopP.round (CX σ [] known_nil) mixed (g:=3271) (Eq.mpr (by kernel_rfl) h)
theorem cascade_Winners.run {a0 a1 a2:AV} {H:Hp} {K:AV→Hp→Prop} (h:allocK (List.replicate 16 (.lit (.int .i64 0))) H fun x1 H2=>bnd (lenSl a2) fun x3=>cascade_Winners.L0 σ K a0 a1 a2 x1 (.lit (.slice none 0 0)) x3 (.lit (.int .i64 0)) H2):∃ r H1,Good Tryz.prog σ n_cascade_Winners [a0,a1,a2] H r H1∧K r H1 :=
 good_of_wp (CX σ [] known_nil) mixed 3271 (fn:=Tryz.f12) (f:=n_cascade_Winners) (c:=cascade_Winners.code) (fnT_ok 12 _ (by kernel_rfl)).1 (by kernel_rfl) (fnT_ok 12 _ (by kernel_rfl)).2 (Eq.mpr (by kernel_rfl) h)
noncomputable def dom_New.code:Code:=bodyOf Tryz.f14
noncomputable def dom_New.L0 (σ:Sig) (K:AV→Hp→Prop) (y4 y13 y14 y15:AV) (H:Hp):Prop:=∀ js:Nat→AV,LoopP (CX σ [] known_nil) (lB (bB (sR (sL (sR (sR (sR dom_New.code))))))) [js 0,js 1,js 2,js 3,y4,js 5,js 6,js 7,js 8,js 9,js 10,js 11,js 12,y13,y14,y15,js 16,js 17,js 18,js 19,js 20,js 21,js 22,js 23,js 24,js 25,js 26] H (fun e T1 H1=>(nx (fnQ (CX σ [] known_nil).ti Tryz.f14.results.toList K) fun T1 H1=>wp (CX σ [] known_nil) 57360 (sR (sR (sR (sR dom_New.code)))) T1 H1 (fnQ (CX σ [] known_nil).ti Tryz.f14.results.toList K)) (unblock 0 e) T1 H1)
theorem dom_New.L0_step {K:AV→Hp→Prop} {y4 y13 y14 y15:AV} {H:Hp} (h:bnd (binR .lss y15 y14) fun x1=>ifB x1 (bnd (ixaSl 5 y13 y15) fun x2=>bnd (ldA true 5 H x2) fun x3=>allocK [.lit (.int .i64 0),.lit (.string ⟨#[]⟩),.lit (.string ⟨#[]⟩),.lit (.slice none 0 0),.lit (.slice none 0 0)] H fun x4 H5=>bnd (stA 5 H5 x4 x3) fun H6=>bnd (ldA true 5 H6 x4) fun x7=>callK Tryz.prog σ n_dom_Tree_put [y4,x7] H6 fun x8 H9=>bnd (binR .neq x8 (.lit (.int .i64 0))) fun x10=>ifB x10 (K (.tup [(.lit (.pointer none)),x8]) H9) (bnd (binR .add y15 (.lit (.int .i64 1))) fun x11=>dom_New.L0 σ K y4 y13 y14 x11 H9)) (K (.tup [y4,(.lit (.int .i64 0))]) H)):dom_New.L0 σ K y4 y13 y14 y15 H :=
 fun js=>LoopP.round (CX σ [] known_nil) mixed (g:=57360) (Eq.mpr (by kernel_rfl) h)
theorem dom_New.run {a0:AV} {H:Hp} {K:AV→Hp→Prop} (h:bnd (lenSl a0) fun x1=>bnd (binR .gtr x1 (.lit (.int .i64 4096))) fun x2=>ifB x2 (K (.tup [(.lit (.pointer none)),(.lit (.int .i64 3))]) H) (bnd (bldR [.lit (.slice none 0 0)] []) fun l3=>boxK (.agg l3) H fun x4 H5=>bnd (lenSl a0) fun x6=>dom_New.L0 σ K x4 a0 x6 (.lit (.int .i64 0)) H5)):∃ r H1,Good Tryz.prog σ n_dom_New [a0] H r H1∧K r H1 :=
 good_of_wp (CX σ [] known_nil) mixed 57360 (fn:=Tryz.f14) (f:=n_dom_New) (c:=dom_New.code) (fnT_ok 14 _ (by kernel_rfl)).1 (by kernel_rfl) (fnT_ok 14 _ (by kernel_rfl)).2 (Eq.mpr (by kernel_rfl) h)
noncomputable def ref1_Sheet.code:Code:=bodyOf Tryz.f23
noncomputable def ref1_Sheet.Q0 (σ:Sig) (K:AV→Hp→Prop):Exit→List AV→Hp→Prop:=(nx (fnQ (CX σ [] known_nil).ti Tryz.f23.results.toList K) fun T1 H1=>wp (CX σ [] known_nil) 56 (sR (sR (sR (sR (sR ref1_Sheet.code))))) T1 H1 (fnQ (CX σ [] known_nil).ti Tryz.f23.results.toList K))
noncomputable def ref1_Sheet.L0 (σ:Sig) (K:AV→Hp→Prop) (y3 y4 y5:AV) (H:Hp):Prop:=∀ js:Nat→AV,LoopP (CX σ [] known_nil) (lB (bB (sR (sL (sR (sR (sR (sR ref1_Sheet.code)))))))) [js 0,js 1,js 2,y3,y4,y5,js 6,js 7,js 8,js 9,js 10,js 11,js 12,js 13,js 14,js 15,js 16,js 17,js 18,js 19,js 20,js 21,js 22,js 23,js 24,js 25,js 26,js 27,js 28,js 29,js 30,js 31,js 32,js 33,js 34,js 35,js 36,js 37,js 38,js 39,js 40,js 41,js 42,js 43] H (fun e T1 H1=>(ref1_Sheet.Q0 σ K) (unblock 0 e) T1 H1)
noncomputable def ref1_Sheet.J1 (σ:Sig) (K:AV→Hp→Prop) (y3 y4 y5:AV) (H:Hp):Prop:=∀ js:Nat→AV,wp (CX σ [] known_nil) 56 (sR (sR (lB (bB (sR (sL (sR (sR (sR (sR ref1_Sheet.code)))))))))) [js 0,js 1,js 2,y3,y4,y5,js 6,js 7,js 8,js 9,js 10,js 11,js 12,js 13,js 14,js 15,js 16,js 17,js 18,js 19,js 20,js 21,js 22,js 23,js 24,js 25,js 26,js 27,js 28,js 29,js 30,js 31,js 32,js 33,js 34,js 35,js 36,js 37,js 38,js 39,js 40,js 41,js 42,js 43] H (nx (fun e T1 H1=>(ref1_Sheet.Q0 σ K) (unblock 0 e) T1 H1) fun T1 H1=>∀ js,LoopP (CX σ [] known_nil) (lB (bB (sR (sL (sR (sR (sR (sR ref1_Sheet.code)))))))) (maskA 56 js 0 T1) H1 (fun e T1 H1=>(ref1_Sheet.Q0 σ K) (unblock 0 e) T1 H1))
theorem ref1_Sheet.L0_step {K:AV→Hp→Prop} {y3 y4 y5:AV} {H:Hp} (h:bnd (lenSl y3) fun x1=>bnd (binR .lss y5 x1) fun x2=>ifB x2 (bnd (ixaSl 2 y3 y5) fun x3=>bnd (shiftA x3 0) fun x4=>bnd (ldA false 1 H x4) fun x5=>callK Tryz.prog σ n_ref1_Selectors [x5] H fun x6 H7=>bnd (exR x6 0) fun x8=>bnd (exR x6 1) fun x9=>ifB x9 (bnd (ixaSl 2 y3 y5) fun x10=>bnd (shiftA x10 1) fun x11=>bnd (ldA false 1 H7 x11) fun x12=>callK Tryz.prog σ n_ref1_Decls [x12] H7 fun x13 H14=>callK Tryz.prog σ n_ref1_Sets [x13] H14 fun x15 H16=>bnd (bldR [.lit (.slice none 0 0),.lit (.slice none 0 0)] [(0,1,x8),(1,1,x15)]) fun l17=>bnd (bldSlR [.slice none 0 0,.slice none 0 0] 2 1 H16 [(0,2,(.agg l17))]) fun p18=>bnd (appR false 2 48 p18.2 y4 p18.1) fun p19=>ref1_Sheet.J1 σ K y3 p19.1 y5 p19.2) (ref1_Sheet.J1 σ K y3 y4 y5 H7)) (K y4 H)):ref1_Sheet.L0 σ K y3 y4 y5 H :=
 fun js=>LoopP.round (CX σ [] known_nil) mixed (g:=56) (Eq.mpr (by kernel_rfl) h)
theorem ref1_Sheet.J1_step {K:AV→Hp→Prop} {y3 y4 y5:AV} {H:Hp} (h:bnd (binR .add y5 (.lit (.int .i64 1))) fun x1=>ref1_Sheet.L0 σ K y3 y4 x1 H):ref1_Sheet.J1 σ K y3 y4 y5 H :=
 fun js=>Eq.mpr (by kernel_rfl) h
theorem ref1_Sheet.run {a0:AV} {H:Hp} {K:AV→Hp→Prop} (h:bnd (lenSl a0) fun x1=>bnd (binR .gtr x1 (.lit (.int .i64 65536))) fun x2=>ifB x2 (K (.lit (.slice none 0 0)) H) (callK Tryz.prog σ n_ref1_Prepare [a0] H fun x3 H4=>callK Tryz.prog σ n_ref1_Tokens [x3] H4 fun x5 H6=>callK Tryz.prog σ n_ref1_Rules [x5] H6 fun x7 H8=>ref1_Sheet.L0 σ K x7 (.lit (.slice none 0 0)) (.lit (.int .i64 0)) H8)):∃ r H1,Good Tryz.prog σ n_ref1_Sheet [a0] H r H1∧K r H1 :=
 good_of_wp (CX σ [] known_nil) mixed 56 (fn:=Tryz.f23) (f:=n_ref1_Sheet) (c:=ref1_Sheet.code) (fnT_ok 23 _ (by kernel_rfl)).1 (by kernel_rfl) (fnT_ok 23 _ (by kernel_rfl)).2 (Eq.mpr (by kernel_rfl) h)
noncomputable def cascade_winners.code:Code:=bodyOf Tryz.f27
noncomputable def cascade_winners.R0 (js:Nat→AV) (y3 y4 y5:AV):LRec:=⟨[js 0,js 1,js 2,y3,y4,y5,js 6,js 7,js 8,js 9,js 10,js 11,js 12,js 13,js 14,js 15,js 16,js 17,js 18,js 19,js 20,js 21,js 22,js 23,js 24,js 25,js 26,js 27,js 28,js 29,js 30,js 31,js 32,js 33,js 34,js 35,js 36,js 37,js 38,js 39,js 40],rP (bB (sR (sL (sR (sR (sR (sR cascade_winners.code))))))),rA (bB (sR (sL (sR (sR (sR (sR cascade_winners.code))))))),rB (bB (sR (sL (sR (sR (sR (sR cascade_winners.code)))))))⟩
theorem cascade_winners.R0_round {K:AV→Hp→Prop} {js:Nat→AV} {y3 y4 y5 p0:AV} {id:Nat} {H:Hp} (hl:H.get id=some (.loop (cascade_winners.R0 js y3 y4 y5) .ready none)) (h:allocK [.lit (.int .i64 0),.lit (.int .i64 0),.lit (.int .i64 0),.lit (.bool false),.lit (.int .i64 0)] H fun x1 H2=>bnd (stA 5 H2 x1 p0) fun H3=>H3.get id=some (.loop (cascade_winners.R0 js y3 y4 y5) .ready none)∧(bnd (some (H3.set id (some (.loop (cascade_winners.R0 js y3 y4 y5) .busy none)))) fun H4=>bnd (shiftA x1 0) fun x5=>bnd (shiftA x5 0) fun x6=>bnd (ldA false 1 H4 x6) fun x7=>bnd (binR .lss x7 (.lit (.int .i64 0))) fun x8=>ifB x8 (roundE id (cascade_winners.R0 js y3 y4 y5) K .normal H4) (bnd (binR .geq x7 (.lit (.int .i64 8))) fun x9=>ifB x9 (roundE id (cascade_winners.R0 js y3 y4 y5) K .normal H4) (bnd (ixaArr 8 1 y5 x7) fun x10=>bnd (ldA false 1 H4 x10) fun x11=>bnd (unR .not x11) fun x12=>ifB x12 (bnd (ldA true 5 H4 x1) fun x13=>bnd (ixaArr 8 5 y4 x7) fun x14=>bnd (stA 5 H4 x14 x13) fun H15=>bnd (ixaArr 8 1 y5 x7) fun x16=>bnd (stA 1 H15 x16 (.lit (.bool true))) fun H17=>bnd (shiftA x1 0) fun x18=>bnd (shiftA x18 1) fun x19=>bnd (ldA true 2 H17 x19) fun x20=>bnd (ixaArr 8 2 y3 x7) fun x21=>bnd (stA 2 H17 x21 x20) fun H22=>roundE id (cascade_winners.R0 js y3 y4 y5) K .normal H22) (bnd (ldA true 5 H4 x1) fun x23=>bnd (ixaArr 8 5 y4 x7) fun x24=>bnd (ldA true 5 H4 x24) fun x25=>callK Tryz.prog σ n_cascade_candidate_beats [x23,x25] H4 fun x26 H27=>ifB x26 (bnd (ldA true 5 H27 x1) fun x28=>bnd (ixaArr 8 5 y4 x7) fun x29=>bnd (stA 5 H27 x29 x28) fun H30=>bnd (ixaArr 8 1 y5 x7) fun x31=>bnd (stA 1 H30 x31 (.lit (.bool true))) fun H32=>bnd (shiftA x1 0) fun x33=>bnd (shiftA x33 1) fun x34=>bnd (ldA true 2 H32 x34) fun x35=>bnd (ixaArr 8 2 y3 x7) fun x36=>bnd (stA 2 H32 x36 x35) fun H37=>roundE id (cascade_winners.R0 js y3 y4 y5) K .normal H37) (roundE id (cascade_winners.R0 js y3 y4 y5) K .normal H27)))))):callV Tryz.prog σ (.yl id) [p0] H K :=
 yield_of_wp (CX σ [] known_nil) mixed 56 hl (by kernel_rfl) (by kernel_rfl) (by kernel_rfl) (Eq.mpr (by kernel_rfl) h)
theorem cascade_winners.run {a0:AV} {H:Hp} {K:AV→Hp→Prop} (h:allocK (List.replicate 16 (.lit (.int .i64 0))) H fun x1 H2=>allocK (List.replicate 16 (.lit (.int .i64 0))) H2 fun x3 H4=>allocK [.lit (.int .i64 0),.lit (.int .i64 0),.lit (.int .i64 0),.lit (.bool false),.lit (.int .i64 0),.lit (.int .i64 0),.lit (.int .i64 0),.lit (.int .i64 0),.lit (.bool false),.lit (.int .i64 0),.lit (.int .i64 0),.lit (.int .i64 0),.lit (.int .i64 0),.lit (.bool false),.lit (.int .i64 0),.lit (.int .i64 0),.lit (.int .i64 0),.lit (.int .i64 0),.lit (.bool false),.lit (.int .i64 0),.lit (.int .i64 0),.lit (.int .i64 0),.lit (.int .i64 0),.lit (.bool false),.lit (.int .i64 0),.lit (.int .i64 0),.lit (.int .i64 0),.lit (.int .i64 0),.lit (.bool false),.lit (.int .i64 0),.lit (.int .i64 0),.lit (.int .i64 0),.lit (.int .i64 0),.lit (.bool false),.lit (.int .i64 0),.lit (.int .i64 0),.lit (.int .i64 0),.lit (.int .i64 0),.lit (.bool false),.lit (.int .i64 0)] H4 fun x5 H6=>allocK [.lit (.bool false),.lit (.bool false),.lit (.bool false),.lit (.bool false),.lit (.bool false),.lit (.bool false),.lit (.bool false),.lit (.bool false)] H6 fun x7 H8=>∀ js:Nat→AV,rangeK Tryz.prog σ a0 (cascade_winners.R0 js x3 x5 x7) H8 (fun H9=>bnd (ldA true 16 H9 x3) fun x11=>bnd (stA 16 H9 x1 x11) fun H12=>bnd (ldA true 16 H12 x1) fun r13=>K r13 H12) (fun H9=>bnd (ldA true 16 H9 x1) fun r14=>K r14 H9) (fun i10 H9=>exB (Nat.beq i10 1) (False) (False))):∃ r H1,Good Tryz.prog σ n_cascade_winners [a0] H r H1∧K r H1 :=
 good_of_wp (CX σ [] known_nil) mixed 56 (fn:=Tryz.f27) (f:=n_cascade_winners) (c:=cascade_winners.code) (fnT_ok 27 _ (by kernel_rfl)).1 (by kernel_rfl) (fnT_ok 27 _ (by kernel_rfl)).2 (Eq.mpr (by kernel_rfl) h)
noncomputable def cascade_candidates.code:Code:=bodyOf Tryz.f28
theorem cascade_candidates.run {a0 a1 a2 a3 a4:AV} {H:Hp} {K:AV→Hp→Prop} (h:boxK a0 H fun x1 H2=>boxK a1 H2 fun x3 H4=>boxK a2 H4 fun x5 H6=>boxK a3 H6 fun x7 H8=>boxK a4 H8 fun x9 H10=>K (.fn n_cascade_candidates_1 [x7,x5,x9,x1,x3]) H10):∃ r H1,Good Tryz.prog σ n_cascade_candidates [a0,a1,a2,a3,a4] H r H1∧K r H1 :=
 good_of_wp (CX σ [] known_nil) mixed 0 (fn:=Tryz.f28) (f:=n_cascade_candidates) (c:=cascade_candidates.code) (fnT_ok 28 _ (by kernel_rfl)).1 (by kernel_rfl) (fnT_ok 28 _ (by kernel_rfl)).2 (Eq.mpr (by kernel_rfl) h)
noncomputable def cascade_Winners_1.code:Code:=bodyOf Tryz.f29
theorem cascade_Winners_1.run {a0:AV} {H:Hp} {K:AV→Hp→Prop} (h:boxK a0 H fun x1 H2=>K (.lit (.bool true)) H2):∃ r H1,Good Tryz.prog σ n_cascade_Winners_1 [a0] H r H1∧K r H1 :=
 good_of_wp (CX σ [] known_nil) mixed 0 (fn:=Tryz.f29) (f:=n_cascade_Winners_1) (c:=cascade_Winners_1.code) (fnT_ok 29 _ (by kernel_rfl)).1 (by kernel_rfl) (fnT_ok 29 _ (by kernel_rfl)).2 (Eq.mpr (by kernel_rfl) h)
noncomputable def dom_Tree_put.code:Code:=bodyOf Tryz.f31
noncomputable def dom_Tree_put.J0 (σ:Sig) (K:AV→Hp→Prop) (y0 y5 y6 y7:AV) (H:Hp):Prop:=∀ js:Nat→AV,wp (CX σ [] known_nil) 225 (sR (sR (sR (cT (sR (cE (sR (bB (sL (sR (sR (sR dom_Tree_put.code)))))))))))) [y0,js 1,js 2,js 3,js 4,y5,y6,y7,js 8,js 9,js 10,js 11,js 12,js 13,js 14,js 15,js 16,js 17,js 18,js 19,js 20,js 21,js 22,js 23,js 24,js 25,js 26,js 27,js 28,js 29,js 30,js 31,js 32,js 33,js 34,js 35,js 36,js 37,js 38,js 39,js 40,js 41,js 42,js 43,js 44,js 45,js 46,js 47,js 48,js 49,js 50,js 51,js 52,js 53,js 54,js 55,js 56,js 57,js 58,js 59,js 60,js 61,js 62,js 63,js 64,js 65,js 66,js 67,js 68,js 69,js 70,js 71,js 72,js 73,js 74,js 75,js 76,js 77,js 78,js 79,js 80,js 81,js 82,js 83,js 84,js 85,js 86,js 87,js 88,js 89,js 90,js 91,js 92,js 93,js 94,js 95,js 96,js 97] H (fun e T1 H1=>(nx (fnQ (CX σ [] known_nil).ti Tryz.f31.results.toList K) fun T1 H1=>∀ js,wp (CX σ [] known_nil) 225 (sR (sR (sR (sR dom_Tree_put.code)))) (maskA 225 js 0 T1) H1 (fnQ (CX σ [] known_nil).ti Tryz.f31.results.toList K)) (unblock 0 e) T1 H1)
noncomputable def dom_Tree_put.J1 (σ:Sig) (K:AV→Hp→Prop) (y0 y5 y6 y7:AV) (H:Hp):Prop:=∀ js:Nat→AV,wp (CX σ [] known_nil) 225 (sR (sR (sR (sR dom_Tree_put.code)))) [y0,js 1,js 2,js 3,js 4,y5,y6,y7,js 8,js 9,js 10,js 11,js 12,js 13,js 14,js 15,js 16,js 17,js 18,js 19,js 20,js 21,js 22,js 23,js 24,js 25,js 26,js 27,js 28,js 29,js 30,js 31,js 32,js 33,js 34,js 35,js 36,js 37,js 38,js 39,js 40,js 41,js 42,js 43,js 44,js 45,js 46,js 47,js 48,js 49,js 50,js 51,js 52,js 53,js 54,js 55,js 56,js 57,js 58,js 59,js 60,js 61,js 62,js 63,js 64,js 65,js 66,js 67,js 68,js 69,js 70,js 71,js 72,js 73,js 74,js 75,js 76,js 77,js 78,js 79,js 80,js 81,js 82,js 83,js 84,js 85,js 86,js 87,js 88,js 89,js 90,js 91,js 92,js 93,js 94,js 95,js 96,js 97] H (fnQ (CX σ [] known_nil).ti Tryz.f31.results.toList K)
theorem dom_Tree_put.J0_step {K:AV→Hp→Prop} {y0 y5 y6 y7:AV} {H:Hp} (h:bnd (nilR y7) fun x1=>bnd (shiftA x1 5) fun x2=>bnd (ldA false 1 H x2) fun x3=>bnd (bldSlR [.int .i64 0] 1 1 H [(0,1,y6)]) fun p4=>bnd (appR false 1 8 p4.2 x3 p4.1) fun p5=>bnd (nilR y7) fun x6=>bnd (shiftA x6 5) fun x7=>bnd (stA 1 p5.2 x7 p5.1) fun H8=>dom_Tree_put.J1 σ K y0 y5 y6 y7 H8):dom_Tree_put.J0 σ K y0 y5 y6 y7 H :=
 fun js=>Eq.mpr (by kernel_rfl) h
theorem dom_Tree_put.J1_step {K:AV→Hp→Prop} {y0 y5 y6 y7:AV} {H:Hp} (h:bnd (nilR y0) fun x1=>bnd (shiftA x1 0) fun x2=>bnd (ldA false 1 H x2) fun x3=>bnd (ldA true 9 H y5) fun x4=>bnd (bldSlR [.int .i64 0,.string ⟨#[]⟩,.string ⟨#[]⟩,.slice none 0 0,.slice none 0 0,.slice none 0 0,.int .i64 0,.int .i64 0,.int .i64 0] 9 1 H [(0,9,x4)]) fun p5=>kpK (x2,some 1) H p5.2 (bnd (appR false 9 136 p5.2 x3 p5.1) fun p6=>bnd (nilR y0) fun x7=>bnd (shiftA x7 0) fun x8=>bnd (stA 1 p6.2 x8 p6.1) fun H9=>K (.lit (.int .i64 0)) H9)):dom_Tree_put.J1 σ K y0 y5 y6 y7 H :=
 fun js=>Eq.mpr (by kernel_rfl) h
theorem dom_Tree_put.run {a0 a1:AV} {H:Hp} {K:AV→Hp→Prop} (h:boxK a1 H fun x1 H2=>bnd (ldA true 5 H2 x1) fun x3=>callK Tryz.prog σ n_dom_lowered [x3] H2 fun x4 H5=>bnd (bldR [.lit (.int .i64 0),.lit (.string ⟨#[]⟩),.lit (.string ⟨#[]⟩),.lit (.slice none 0 0),.lit (.slice none 0 0),.lit (.slice none 0 0),.lit (.int .i64 0),.lit (.int .i64 0),.lit (.int .i64 0)] [(0,5,x4),(7,1,(.lit (.int .i64 1))),(8,1,(.lit (.int .i64 (-1))))]) fun l6=>allocK [.lit (.int .i64 0),.lit (.string ⟨#[]⟩),.lit (.string ⟨#[]⟩),.lit (.slice none 0 0),.lit (.slice none 0 0),.lit (.slice none 0 0),.lit (.int .i64 0),.lit (.int .i64 0),.lit (.int .i64 0)] H5 fun x7 H8=>bnd (stA 9 H8 x7 (.agg l6)) fun H9=>bnd (nilR a0) fun x10=>bnd (shiftA x10 0) fun x11=>bnd (ldA false 1 H9 x11) fun x12=>bnd (lenSl x12) fun x13=>bnd (binR .eql x13 (.lit (.int .i64 0))) fun x14=>ifB x14 (bnd (shiftA x1 0) fun x15=>bnd (ldA false 1 H9 x15) fun x16=>bnd (binR .neq x16 (.lit (.int .i64 (-1)))) fun x17=>ifB x17 (K (.lit (.int .i64 10)) H9) (bnd (binR .gtr x13 (.lit (.int .i64 0))) fun x18=>ifB x18 (bnd (shiftA x1 0) fun x19=>bnd (ldA false 1 H9 x19) fun x20=>bnd (binR .lss x20 (.lit (.int .i64 0))) fun x21=>ifB x21 (K (.lit (.int .i64 10)) H9) (bnd (shiftA x1 0) fun x22=>bnd (ldA false 1 H9 x22) fun x23=>bnd (binR .geq x23 x13) fun x24=>ifB x24 (K (.lit (.int .i64 10)) H9) (bnd (binR .gtr x13 (.lit (.int .i64 0))) fun x25=>ifB x25 (bnd (nilR a0) fun x26=>bnd (shiftA x26 0) fun x27=>bnd (ldA false 1 H9 x27) fun x28=>bnd (shiftA x1 0) fun x29=>bnd (ldA false 1 H9 x29) fun x30=>bnd (ixaSl 9 x28 x30) fun x31=>bnd (nilR x31) fun x32=>bnd (shiftA x32 6) fun x33=>bnd (ldA false 1 H9 x33) fun x34=>bnd (binR .add x34 (.lit (.int .i64 1))) fun x35=>bnd (shiftA x7 6) fun x36=>bnd (stA 1 H9 x36 x35) fun H37=>bnd (shiftA x7 6) fun x38=>bnd (ldA false 1 H37 x38) fun x39=>bnd (binR .gtr x39 (.lit (.int .i64 256))) fun x40=>ifB x40 (K (.lit (.int .i64 11)) H37) (bnd (nilR x31) fun x41=>bnd (shiftA x41 5) fun x42=>bnd (ldA false 1 H37 x42) fun x43=>bnd (lenSl x43) fun x44=>bnd (binR .gtr x44 (.lit (.int .i64 0))) fun x45=>ifB x45 (bnd (binR .add x44 (.lit (.int .i64 1))) fun x46=>bnd (nilR x31) fun x47=>bnd (shiftA x47 5) fun x48=>bnd (ldA false 1 H37 x48) fun x49=>bnd (binR .sub x44 (.lit (.int .i64 1))) fun x50=>bnd (ixaSl 1 x49 x50) fun x51=>bnd (ldA false 1 H37 x51) fun x52=>bnd (shiftA x7 7) fun x53=>bnd (stA 1 H37 x53 x46) fun H54=>kpK (x51,some 1) H37 H54 (kpK (x48,some 1) H37 H54 (bnd (shiftA x7 8) fun x55=>bnd (stA 1 H54 x55 x52) fun H56=>dom_Tree_put.J0 σ K a0 x7 x13 x31 H56))) (dom_Tree_put.J0 σ K a0 x7 x13 x31 H37))) (dom_Tree_put.J1 σ K a0 x7 x13 (.lit undef) H9)))) (bnd (binR .gtr x13 (.lit (.int .i64 0))) fun x57=>ifB x57 (bnd (nilR a0) fun x58=>bnd (shiftA x58 0) fun x59=>bnd (ldA false 1 H9 x59) fun x60=>bnd (shiftA x1 0) fun x61=>bnd (ldA false 1 H9 x61) fun x62=>bnd (ixaSl 9 x60 x62) fun x63=>bnd (nilR x63) fun x64=>bnd (shiftA x64 6) fun x65=>bnd (ldA false 1 H9 x65) fun x66=>bnd (binR .add x66 (.lit (.int .i64 1))) fun x67=>bnd (shiftA x7 6) fun x68=>bnd (stA 1 H9 x68 x67) fun H69=>bnd (shiftA x7 6) fun x70=>bnd (ldA false 1 H69 x70) fun x71=>bnd (binR .gtr x71 (.lit (.int .i64 256))) fun x72=>ifB x72 (K (.lit (.int .i64 11)) H69) (bnd (nilR x63) fun x73=>bnd (shiftA x73 5) fun x74=>bnd (ldA false 1 H69 x74) fun x75=>bnd (lenSl x75) fun x76=>bnd (binR .gtr x76 (.lit (.int .i64 0))) fun x77=>ifB x77 (bnd (binR .add x76 (.lit (.int .i64 1))) fun x78=>bnd (nilR x63) fun x79=>bnd (shiftA x79 5) fun x80=>bnd (ldA false 1 H69 x80) fun x81=>bnd (binR .sub x76 (.lit (.int .i64 1))) fun x82=>bnd (ixaSl 1 x81 x82) fun x83=>bnd (ldA false 1 H69 x83) fun x84=>bnd (shiftA x7 7) fun x85=>bnd (stA 1 H69 x85 x78) fun H86=>kpK (x83,some 1) H69 H86 (kpK (x80,some 1) H69 H86 (bnd (shiftA x7 8) fun x87=>bnd (stA 1 H86 x87 x84) fun H88=>dom_Tree_put.J0 σ K a0 x7 x13 x63 H88))) (dom_Tree_put.J0 σ K a0 x7 x13 x63 H69))) (dom_Tree_put.J1 σ K a0 x7 x13 (.lit undef) H9)))) (bnd (binR .gtr x13 (.lit (.int .i64 0))) fun x89=>ifB x89 (bnd (shiftA x1 0) fun x90=>bnd (ldA false 1 H9 x90) fun x91=>bnd (binR .lss x91 (.lit (.int .i64 0))) fun x92=>ifB x92 (K (.lit (.int .i64 10)) H9) (bnd (shiftA x1 0) fun x93=>bnd (ldA false 1 H9 x93) fun x94=>bnd (binR .geq x94 x13) fun x95=>ifB x95 (K (.lit (.int .i64 10)) H9) (bnd (binR .gtr x13 (.lit (.int .i64 0))) fun x96=>ifB x96 (bnd (nilR a0) fun x97=>bnd (shiftA x97 0) fun x98=>bnd (ldA false 1 H9 x98) fun x99=>bnd (shiftA x1 0) fun x100=>bnd (ldA false 1 H9 x100) fun x101=>bnd (ixaSl 9 x99 x101) fun x102=>bnd (nilR x102) fun x103=>bnd (shiftA x103 6) fun x104=>bnd (ldA false 1 H9 x104) fun x105=>bnd (binR .add x105 (.lit (.int .i64 1))) fun x106=>bnd (shiftA x7 6) fun x107=>bnd (stA 1 H9 x107 x106) fun H108=>bnd (shiftA x7 6) fun x109=>bnd (ldA false 1 H108 x109) fun x110=>bnd (binR .gtr x110 (.lit (.int .i64 256))) fun x111=>ifB x111 (K (.lit (.int .i64 11)) H108) (bnd (nilR x102) fun x112=>bnd (shiftA x112 5) fun x113=>bnd (ldA false 1 H108 x113) fun x114=>bnd (lenSl x114) fun x115=>bnd (binR .gtr x115 (.lit (.int .i64 0))) fun x116=>ifB x116 (bnd (binR .add x115 (.lit (.int .i64 1))) fun x117=>bnd (nilR x102) fun x118=>bnd (shiftA x118 5) fun x119=>bnd (ldA false 1 H108 x119) fun x120=>bnd (binR .sub x115 (.lit (.int .i64 1))) fun x121=>bnd (ixaSl 1 x120 x121) fun x122=>bnd (ldA false 1 H108 x122) fun x123=>bnd (shiftA x7 7) fun x124=>bnd (stA 1 H108 x124 x117) fun H125=>kpK (x122,some 1) H108 H125 (kpK (x119,some 1) H108 H125 (bnd (shiftA x7 8) fun x126=>bnd (stA 1 H125 x126 x123) fun H127=>dom_Tree_put.J0 σ K a0 x7 x13 x102 H127))) (dom_Tree_put.J0 σ K a0 x7 x13 x102 H108))) (dom_Tree_put.J1 σ K a0 x7 x13 (.lit undef) H9)))) (bnd (binR .gtr x13 (.lit (.int .i64 0))) fun x128=>ifB x128 (bnd (nilR a0) fun x129=>bnd (shiftA x129 0) fun x130=>bnd (ldA false 1 H9 x130) fun x131=>bnd (shiftA x1 0) fun x132=>bnd (ldA false 1 H9 x132) fun x133=>bnd (ixaSl 9 x131 x133) fun x134=>bnd (nilR x134) fun x135=>bnd (shiftA x135 6) fun x136=>bnd (ldA false 1 H9 x136) fun x137=>bnd (binR .add x137 (.lit (.int .i64 1))) fun x138=>bnd (shiftA x7 6) fun x139=>bnd (stA 1 H9 x139 x138) fun H140=>bnd (shiftA x7 6) fun x141=>bnd (ldA false 1 H140 x141) fun x142=>bnd (binR .gtr x142 (.lit (.int .i64 256))) fun x143=>ifB x143 (K (.lit (.int .i64 11)) H140) (bnd (nilR x134) fun x144=>bnd (shiftA x144 5) fun x145=>bnd (ldA false 1 H140 x145) fun x146=>bnd (lenSl x146) fun x147=>bnd (binR .gtr x147 (.lit (.int .i64 0))) fun x148=>ifB x148 (bnd (binR .add x147 (.lit (.int .i64 1))) fun x149=>bnd (nilR x134) fun x150=>bnd (shiftA x150 5) fun x151=>bnd (ldA false 1 H140 x151) fun x152=>bnd (binR .sub x147 (.lit (.int .i64 1))) fun x153=>bnd (ixaSl 1 x152 x153) fun x154=>bnd (ldA false 1 H140 x154) fun x155=>bnd (shiftA x7 7) fun x156=>bnd (stA 1 H140 x156 x149) fun H157=>kpK (x154,some 1) H140 H157 (kpK (x151,some 1) H140 H157 (bnd (shiftA x7 8) fun x158=>bnd (stA 1 H157 x158 x155) fun H159=>dom_Tree_put.J0 σ K a0 x7 x13 x134 H159))) (dom_Tree_put.J0 σ K a0 x7 x13 x134 H140))) (dom_Tree_put.J1 σ K a0 x7 x13 (.lit undef) H9)))):∃ r H1,Good Tryz.prog σ n_dom_Tree_put [a0,a1] H r H1∧K r H1 :=
 good_of_wp (CX σ [] known_nil) mixed 225 (fn:=Tryz.f31) (f:=n_dom_Tree_put) (c:=dom_Tree_put.code) (fnT_ok 31 _ (by kernel_rfl)).1 (by kernel_rfl) (fnT_ok 31 _ (by kernel_rfl)).2 (Eq.mpr (by kernel_rfl) h)
noncomputable def cascade_candidate_beats.code:Code:=bodyOf Tryz.f52
theorem cascade_candidate_beats.run {a0 a1:AV} {H:Hp} {K:AV→Hp→Prop} (h:boxK a0 H fun x1 H2=>boxK a1 H2 fun x3 H4=>bnd (shiftA x1 0) fun x5=>bnd (shiftA x5 3) fun x6=>bnd (ldA false 1 H4 x6) fun x7=>bnd (shiftA x3 0) fun x8=>bnd (shiftA x8 3) fun x9=>bnd (ldA false 1 H4 x9) fun x10=>bnd (eqBoolR .neq x7 x10) fun x11=>ifB x11 (bnd (shiftA x1 0) fun x12=>bnd (shiftA x12 3) fun x13=>bnd (ldA false 1 H4 x13) fun x14=>K x14 H4) (bnd (shiftA x1 4) fun x15=>bnd (ldA false 1 H4 x15) fun x16=>bnd (shiftA x3 4) fun x17=>bnd (ldA false 1 H4 x17) fun x18=>bnd (binR .geq x16 x18) fun x19=>K x19 H4)):∃ r H1,Good Tryz.prog σ n_cascade_candidate_beats [a0,a1] H r H1∧K r H1 :=
 good_of_wp (CX σ [] known_nil) mixed 0 (fn:=Tryz.f52) (f:=n_cascade_candidate_beats) (c:=cascade_candidate_beats.code) (fnT_ok 52 _ (by kernel_rfl)).1 (by kernel_rfl) (fnT_ok 52 _ (by kernel_rfl)).2 (Eq.mpr (by kernel_rfl) h)
noncomputable def cascade_candidates_1.code:Code:=bodyOf Tryz.f53
noncomputable def cascade_candidates_1.Q0 (σ:Sig) (K:AV→Hp→Prop):Exit→List AV→Hp→Prop:=(nx (fun e T1 H1=>(fnQ (CX σ [] known_nil).ti Tryz.f53.results.toList K) (unblock 0 e) T1 H1) fun T1 H1=>∀ js,LoopP (CX σ [] known_nil) (lB (bB (sR cascade_candidates_1.code))) (maskA 4035225386383520573 js 0 T1) H1 (fun e T1 H1=>(fnQ (CX σ [] known_nil).ti Tryz.f53.results.toList K) (unblock 0 e) T1 H1))
noncomputable def cascade_candidates_1.Q1 (σ:Sig) (K:AV→Hp→Prop):Exit→List AV→Hp→Prop:=(nx (cascade_candidates_1.Q0 σ K) fun T1 H1=>∀ js,wp (CX σ [] known_nil) 4035225386383520573 (sR (sR (sR (lB (bB (sR cascade_candidates_1.code)))))) (maskA 4035225386383520573 js 0 T1) H1 (cascade_candidates_1.Q0 σ K))
noncomputable def cascade_candidates_1.Q2 (σ:Sig) (K:AV→Hp→Prop):Exit→List AV→Hp→Prop:=(nx (fun e T1 H1=>(cascade_candidates_1.Q1 σ K) (unblock 1 e) T1 H1) fun T1 H1=>wp (CX σ [] known_nil) 4035225386383520573 (sR (sR (sR (sR (bB (sL (sR (sR (lB (bB (sR cascade_candidates_1.code))))))))))) T1 H1 (fun e T1 H1=>(cascade_candidates_1.Q1 σ K) (unblock 1 e) T1 H1))
noncomputable def cascade_candidates_1.L0 (σ:Sig) (K:AV→Hp→Prop) (y0 y2 y3 y4 y5 y8 y9 y12 y13 y16 y17 y18 y34 y35 y36 y59 y60 y61:AV) (H:Hp):Prop:=∀ js:Nat→AV,LoopP (CX σ [] known_nil) (lB (bB (sR cascade_candidates_1.code))) [y0,js 1,y2,y3,y4,y5,js 6,js 7,y8,y9,js 10,js 11,y12,y13,js 14,js 15,y16,y17,y18,js 19,js 20,js 21,js 22,js 23,js 24,js 25,js 26,js 27,js 28,js 29,js 30,js 31,js 32,js 33,y34,y35,y36,js 37,js 38,js 39,js 40,js 41,js 42,js 43,js 44,js 45,js 46,js 47,js 48,js 49,js 50,js 51,js 52,js 53,js 54,js 55,js 56,js 57,js 58,y59,y60,y61,js 62,js 63,js 64,js 65,js 66,js 67,js 68,js 69,js 70,js 71,js 72,js 73,js 74,js 75] H (fun e T1 H1=>(fnQ (CX σ [] known_nil).ti Tryz.f53.results.toList K) (unblock 0 e) T1 H1)
noncomputable def cascade_candidates_1.J1 (σ:Sig) (K:AV→Hp→Prop) (y0 y2 y3 y4 y5 y8 y9 y12 y13 y16 y17 y18 y34 y35 y36 y59 y60 y61:AV) (H:Hp):Prop:=∀ js:Nat→AV,wp (CX σ [] known_nil) 4035225386383520573 (sR (sR (sR (lB (bB (sR cascade_candidates_1.code)))))) [y0,js 1,y2,y3,y4,y5,js 6,js 7,y8,y9,js 10,js 11,y12,y13,js 14,js 15,y16,y17,y18,js 19,js 20,js 21,js 22,js 23,js 24,js 25,js 26,js 27,js 28,js 29,js 30,js 31,js 32,js 33,y34,y35,y36,js 37,js 38,js 39,js 40,js 41,js 42,js 43,js 44,js 45,js 46,js 47,js 48,js 49,js 50,js 51,js 52,js 53,js 54,js 55,js 56,js 57,js 58,y59,y60,y61,js 62,js 63,js 64,js 65,js 66,js 67,js 68,js 69,js 70,js 71,js 72,js 73,js 74,js 75] H (cascade_candidates_1.Q0 σ K)
noncomputable def cascade_candidates_1.L2 (σ:Sig) (K:AV→Hp→Prop) (y0 y2 y3 y4 y5 y8 y9 y12 y13 y16 y17 y18 y34 y35 y36 y59 y60 y61:AV) (H:Hp):Prop:=∀ js:Nat→AV,LoopP (CX σ [] known_nil) (lB (bB (sR (sL (sR (sR (sR (bB (sL (sR (sR (lB (bB (sR cascade_candidates_1.code)))))))))))))) [y0,js 1,y2,y3,y4,y5,js 6,js 7,y8,y9,js 10,js 11,y12,y13,js 14,js 15,y16,y17,y18,js 19,js 20,js 21,js 22,js 23,js 24,js 25,js 26,js 27,js 28,js 29,js 30,js 31,js 32,js 33,y34,y35,y36,js 37,js 38,js 39,js 40,js 41,js 42,js 43,js 44,js 45,js 46,js 47,js 48,js 49,js 50,js 51,js 52,js 53,js 54,js 55,js 56,js 57,js 58,y59,y60,y61,js 62,js 63,js 64,js 65,js 66,js 67,js 68,js 69,js 70,js 71,js 72,js 73,js 74,js 75] H (fun e T1 H1=>(cascade_candidates_1.Q2 σ K) (unblock 2 e) T1 H1)
noncomputable def cascade_candidates_1.J3 (σ:Sig) (K:AV→Hp→Prop) (y0 y2 y3 y4 y5 y8 y9 y12 y13 y16 y17 y18 y34 y35 y36 y59 y60 y61:AV) (H:Hp):Prop:=∀ js:Nat→AV,wp (CX σ [] known_nil) 4035225386383520573 (sR (sR (sR (lB (bB (sR (sL (sR (sR (sR (bB (sL (sR (sR (lB (bB (sR cascade_candidates_1.code))))))))))))))))) [y0,js 1,y2,y3,y4,y5,js 6,js 7,y8,y9,js 10,js 11,y12,y13,js 14,js 15,y16,y17,y18,js 19,js 20,js 21,js 22,js 23,js 24,js 25,js 26,js 27,js 28,js 29,js 30,js 31,js 32,js 33,y34,y35,y36,js 37,js 38,js 39,js 40,js 41,js 42,js 43,js 44,js 45,js 46,js 47,js 48,js 49,js 50,js 51,js 52,js 53,js 54,js 55,js 56,js 57,js 58,y59,y60,y61,js 62,js 63,js 64,js 65,js 66,js 67,js 68,js 69,js 70,js 71,js 72,js 73,js 74,js 75] H (nx (fun e T1 H1=>(cascade_candidates_1.Q2 σ K) (unblock 2 e) T1 H1) fun T1 H1=>∀ js,LoopP (CX σ [] known_nil) (lB (bB (sR (sL (sR (sR (sR (bB (sL (sR (sR (lB (bB (sR cascade_candidates_1.code)))))))))))))) (maskA 4035225386383520573 js 0 T1) H1 (fun e T1 H1=>(cascade_candidates_1.Q2 σ K) (unblock 2 e) T1 H1))
noncomputable def cascade_candidates_1.L4 (σ:Sig) (K:AV→Hp→Prop) (y0 y2 y3 y4 y5 y8 y9 y12 y13 y16 y17 y18 y34 y35 y36 y59 y60 y61:AV) (H:Hp):Prop:=∀ js:Nat→AV,LoopP (CX σ [] known_nil) (lB (bB (sR (sR (sR (sR (sR (sR (bB (sL (sR (sR (lB (bB (sR cascade_candidates_1.code))))))))))))))) [y0,js 1,y2,y3,y4,y5,js 6,js 7,y8,y9,js 10,js 11,y12,y13,js 14,js 15,y16,y17,y18,js 19,js 20,js 21,js 22,js 23,js 24,js 25,js 26,js 27,js 28,js 29,js 30,js 31,js 32,js 33,y34,y35,y36,js 37,js 38,js 39,js 40,js 41,js 42,js 43,js 44,js 45,js 46,js 47,js 48,js 49,js 50,js 51,js 52,js 53,js 54,js 55,js 56,js 57,js 58,y59,y60,y61,js 62,js 63,js 64,js 65,js 66,js 67,js 68,js 69,js 70,js 71,js 72,js 73,js 74,js 75] H (fun e T1 H1=>(fun e T1 H1=>(cascade_candidates_1.Q1 σ K) (unblock 1 e) T1 H1) (unblock 4 e) T1 H1)
theorem cascade_candidates_1.L0_step {K:AV→Hp→Prop} {y0 y2 y3 y4 y5 y8 y9 y12 y13 y16 y17 y18 y34 y35 y36 y59 y60 y61:AV} {H:Hp} (h:bnd (binR .lss y18 y17) fun x1=>ifB x1 (bnd (ixaSl 1 y16 y18) fun x2=>bnd (ldA false 1 H x2) fun x3=>bnd (binR .lss x3 (.lit (.int .i64 0))) fun x4=>ifB x4 (cascade_candidates_1.J1 σ K y0 y2 y3 y4 y5 x3 y9 y12 y13 y16 y17 y18 y34 y35 y36 y59 y60 y61 H) (bnd (ldA false 1 H y2) fun x5=>bnd (lenSl x5) fun x6=>bnd (binR .geq x3 x6) fun x7=>ifB x7 (cascade_candidates_1.J1 σ K y0 y2 y3 y4 y5 x3 y9 y12 y13 y16 y17 y18 y34 y35 y36 y59 y60 y61 H) (bnd (ldA false 1 H y2) fun x8=>bnd (ixaSl 2 x8 x3) fun x9=>bnd (shiftA x9 0) fun x10=>bnd (ldA false 1 H x10) fun x11=>bnd (lenSl x11) fun x12=>cascade_candidates_1.L2 σ K y0 y2 y3 y4 y5 x3 (.lit (.slice none 0 0)) y12 y13 y16 y17 y18 x11 x12 (.lit (.int .i64 0)) y59 y60 y61 H))) (K (.tup []) H)):cascade_candidates_1.L0 σ K y0 y2 y3 y4 y5 y8 y9 y12 y13 y16 y17 y18 y34 y35 y36 y59 y60 y61 H :=
 fun js=>LoopP.round (CX σ [] known_nil) mixed (g:=4035225386383520573) (Eq.mpr (by kernel_rfl) h)
theorem cascade_candidates_1.J1_step {K:AV→Hp→Prop} {y0 y2 y3 y4 y5 y8 y9 y12 y13 y16 y17 y18 y34 y35 y36 y59 y60 y61:AV} {H:Hp} (h:bnd (binR .add y18 (.lit (.int .i64 1))) fun x1=>cascade_candidates_1.L0 σ K y0 y2 y3 y4 y5 y8 y9 y12 y13 y16 y17 x1 y34 y35 y36 y59 y60 y61 H):cascade_candidates_1.J1 σ K y0 y2 y3 y4 y5 y8 y9 y12 y13 y16 y17 y18 y34 y35 y36 y59 y60 y61 H :=
 fun js=>Eq.mpr (by kernel_rfl) h
theorem cascade_candidates_1.L2_step {K:AV→Hp→Prop} {y0 y2 y3 y4 y5 y8 y9 y12 y13 y16 y17 y18 y34 y35 y36 y59 y60 y61:AV} {H:Hp} (h:bnd (binR .lss y36 y35) fun x1=>ifB x1 (bnd (ixaSl 1 y34 y36) fun x2=>bnd (ldA true 1 H x2) fun x3=>allocK [.lit (.slice none 0 0)] H fun x4 H5=>bnd (stA 1 H5 x4 x3) fun H6=>bnd (ldA false 1 H6 y3) fun x7=>bnd (ldA true 1 H6 x4) fun x8=>callV Tryz.prog σ x7 [x8] H6 fun x9 H10=>ifB x9 (bnd (ldA true 1 H10 x4) fun x11=>bnd (bldSlR [.slice none 0 0] 1 1 H10 [(0,1,x11)]) fun p12=>bnd (appR false 1 24 p12.2 y9 p12.1) fun p13=>cascade_candidates_1.J3 σ K y0 y2 y3 y4 y5 y8 p13.1 y12 y13 y16 y17 y18 y34 y35 y36 y59 y60 y61 p13.2) (cascade_candidates_1.J3 σ K y0 y2 y3 y4 y5 y8 y9 y12 y13 y16 y17 y18 y34 y35 y36 y59 y60 y61 H10)) (bnd (ldA false 1 H y4) fun x14=>bnd (ldA false 1 H y5) fun x15=>callK Tryz.prog σ n_weigh_Best [x14,x15,y9] H fun x16 H17=>bnd (exR x16 0) fun x18=>bnd (exR x16 1) fun x19=>bnd (ldA false 1 H17 y2) fun x20=>bnd (ixaSl 2 x20 y8) fun x21=>bnd (shiftA x21 1) fun x22=>bnd (ldA false 1 H17 x22) fun x23=>bnd (lenSl x23) fun x24=>cascade_candidates_1.L4 σ K y0 y2 y3 y4 y5 y8 y9 x18 x19 y16 y17 y18 y34 y35 y36 x23 x24 (.lit (.int .i64 0)) H17)):cascade_candidates_1.L2 σ K y0 y2 y3 y4 y5 y8 y9 y12 y13 y16 y17 y18 y34 y35 y36 y59 y60 y61 H :=
 fun js=>LoopP.round (CX σ [] known_nil) mixed (g:=4035225386383520573) (Eq.mpr (by kernel_rfl) h)
theorem cascade_candidates_1.J3_step {K:AV→Hp→Prop} {y0 y2 y3 y4 y5 y8 y9 y12 y13 y16 y17 y18 y34 y35 y36 y59 y60 y61:AV} {H:Hp} (h:bnd (binR .add y36 (.lit (.int .i64 1))) fun x1=>cascade_candidates_1.L2 σ K y0 y2 y3 y4 y5 y8 y9 y12 y13 y16 y17 y18 y34 y35 x1 y59 y60 y61 H):cascade_candidates_1.J3 σ K y0 y2 y3 y4 y5 y8 y9 y12 y13 y16 y17 y18 y34 y35 y36 y59 y60 y61 H :=
 fun js=>Eq.mpr (by kernel_rfl) h
theorem cascade_candidates_1.L4_step {K:AV→Hp→Prop} {y0 y2 y3 y4 y5 y8 y9 y12 y13 y16 y17 y18 y34 y35 y36 y59 y60 y61:AV} {H:Hp} (h:bnd (binR .lss y61 y60) fun x1=>ifB x1 (bnd (ixaSl 4 y59 y61) fun x2=>bnd (ldA true 4 H x2) fun x3=>allocK [.lit (.int .i64 0),.lit (.int .i64 0),.lit (.int .i64 0),.lit (.bool false)] H fun x4 H5=>bnd (stA 4 H5 x4 x3) fun H6=>ifB y13 (bnd (ldA true 4 H6 x4) fun x7=>bnd (bldR [.lit (.int .i64 0),.lit (.int .i64 0),.lit (.int .i64 0),.lit (.bool false),.lit (.int .i64 0)] [(0,4,x7),(4,1,y12)]) fun l8=>callV Tryz.prog σ y0 [(.agg l8)] H6 fun x9 H10=>bnd (unR .not x9) fun x11=>ifB x11 (K (.tup []) H10) (bnd (binR .add y61 (.lit (.int .i64 1))) fun x12=>cascade_candidates_1.L4 σ K y0 y2 y3 y4 y5 y8 y9 y12 y13 y16 y17 y18 y34 y35 y36 y59 y60 x12 H10)) (bnd (binR .add y61 (.lit (.int .i64 1))) fun x13=>cascade_candidates_1.L4 σ K y0 y2 y3 y4 y5 y8 y9 y12 y13 y16 y17 y18 y34 y35 y36 y59 y60 x13 H6)) (cascade_candidates_1.J1 σ K y0 y2 y3 y4 y5 y8 y9 y12 y13 y16 y17 y18 y34 y35 y36 y59 y60 y61 H)):cascade_candidates_1.L4 σ K y0 y2 y3 y4 y5 y8 y9 y12 y13 y16 y17 y18 y34 y35 y36 y59 y60 y61 H :=
 fun js=>LoopP.round (CX σ [] known_nil) mixed (g:=4035225386383520573) (Eq.mpr (by kernel_rfl) h)
theorem cascade_candidates_1.run {a0 a1 a2 a3 a4 a5:AV} {H:Hp} {K:AV→Hp→Prop} (h:bnd (ldA false 1 H a1) fun x1=>bnd (lenSl x1) fun x2=>cascade_candidates_1.L0 σ K a0 a2 a3 a4 a5 (.lit undef) (.lit undef) (.lit undef) (.lit undef) x1 x2 (.lit (.int .i64 0)) (.lit undef) (.lit undef) (.lit undef) (.lit undef) (.lit undef) (.lit undef) H):∃ r H1,Good Tryz.prog σ n_cascade_candidates_1 [a0,a1,a2,a3,a4,a5] H r H1∧K r H1 :=
 good_of_wp (CX σ [] known_nil) mixed 4035225386383520573 (fn:=Tryz.f53) (f:=n_cascade_candidates_1) (c:=cascade_candidates_1.code) (fnT_ok 53 _ (by kernel_rfl)).1 (by kernel_rfl) (fnT_ok 53 _ (by kernel_rfl)).2 (Eq.mpr (by kernel_rfl) h)
noncomputable def weigh_Best.code:Code:=bodyOf Tryz.f54
noncomputable def weigh_Best.Q0 (σ:Sig) (K:AV→Hp→Prop):Exit→List AV→Hp→Prop:=(nx (fnQ (CX σ [] known_nil).ti Tryz.f54.results.toList K) fun T1 H1=>wp (CX σ [] known_nil) 29443 (sR (sR (sR weigh_Best.code))) T1 H1 (fnQ (CX σ [] known_nil).ti Tryz.f54.results.toList K))
noncomputable def weigh_Best.L0 (σ:Sig) (K:AV→Hp→Prop) (y0 y1 y8 y9 y12 y13 y14:AV) (H:Hp):Prop:=∀ js:Nat→AV,LoopP (CX σ [] known_nil) (lB (bB (sR (sL (sR (sR weigh_Best.code)))))) [y0,y1,js 2,js 3,js 4,js 5,js 6,js 7,y8,y9,js 10,js 11,y12,y13,y14,js 15,js 16,js 17,js 18,js 19,js 20,js 21,js 22,js 23,js 24,js 25,js 26,js 27,js 28] H (fun e T1 H1=>(weigh_Best.Q0 σ K) (unblock 0 e) T1 H1)
noncomputable def weigh_Best.J1 (σ:Sig) (K:AV→Hp→Prop) (y0 y1 y8 y9 y12 y13 y14:AV) (H:Hp):Prop:=∀ js:Nat→AV,wp (CX σ [] known_nil) 29443 (sR (sR (sR (lB (bB (sR (sL (sR (sR weigh_Best.code))))))))) [y0,y1,js 2,js 3,js 4,js 5,js 6,js 7,y8,y9,js 10,js 11,y12,y13,y14,js 15,js 16,js 17,js 18,js 19,js 20,js 21,js 22,js 23,js 24,js 25,js 26,js 27,js 28] H (nx (fun e T1 H1=>(weigh_Best.Q0 σ K) (unblock 0 e) T1 H1) fun T1 H1=>∀ js,LoopP (CX σ [] known_nil) (lB (bB (sR (sL (sR (sR weigh_Best.code)))))) (maskA 29443 js 0 T1) H1 (fun e T1 H1=>(weigh_Best.Q0 σ K) (unblock 0 e) T1 H1))
theorem weigh_Best.L0_step {K:AV→Hp→Prop} {y0 y1 y8 y9 y12 y13 y14:AV} {H:Hp} (h:bnd (binR .lss y14 y13) fun x1=>ifB x1 (bnd (ixaSl 1 y12 y14) fun x2=>bnd (ldA true 1 H x2) fun x3=>allocK [.lit (.slice none 0 0)] H fun x4 H5=>bnd (stA 1 H5 x4 x3) fun H6=>bnd (ldA true 1 H6 x4) fun x7=>callK Tryz.prog σ n_match_Selector [y0,y1,x7] H6 fun x8 H9=>ifB x8 (bnd (ldA true 1 H9 x4) fun x10=>callK Tryz.prog σ n_weigh_Of [x10] H9 fun x11 H12=>bnd (maxA [y8,x11]) fun x13=>weigh_Best.J1 σ K y0 y1 x13 (.lit (.bool true)) y12 y13 y14 H12) (weigh_Best.J1 σ K y0 y1 y8 y9 y12 y13 y14 H9)) (K (.tup [y8,y9]) H)):weigh_Best.L0 σ K y0 y1 y8 y9 y12 y13 y14 H :=
 fun js=>LoopP.round (CX σ [] known_nil) mixed (g:=29443) (Eq.mpr (by kernel_rfl) h)
theorem weigh_Best.J1_step {K:AV→Hp→Prop} {y0 y1 y8 y9 y12 y13 y14:AV} {H:Hp} (h:bnd (binR .add y14 (.lit (.int .i64 1))) fun x1=>weigh_Best.L0 σ K y0 y1 y8 y9 y12 y13 x1 H):weigh_Best.J1 σ K y0 y1 y8 y9 y12 y13 y14 H :=
 fun js=>Eq.mpr (by kernel_rfl) h
theorem weigh_Best.run {a0 a1 a2:AV} {H:Hp} {K:AV→Hp→Prop} (h:bnd (lenSl a2) fun x1=>weigh_Best.L0 σ K a0 a1 (.lit (.int .i64 0)) (.lit (.bool false)) a2 x1 (.lit (.int .i64 0)) H):∃ r H1,Good Tryz.prog σ n_weigh_Best [a0,a1,a2] H r H1∧K r H1 :=
 good_of_wp (CX σ [] known_nil) mixed 29443 (fn:=Tryz.f54) (f:=n_weigh_Best) (c:=weigh_Best.code) (fnT_ok 54 _ (by kernel_rfl)).1 (by kernel_rfl) (fnT_ok 54 _ (by kernel_rfl)).2 (Eq.mpr (by kernel_rfl) h)
noncomputable def dom_lowered.code:Code:=bodyOf Tryz.f56
noncomputable def dom_lowered.L0 (σ:Sig) (K:AV→Hp→Prop) (y1 y2 y12 y13:AV) (H:Hp):Prop:=∀ js:Nat→AV,LoopP (CX σ [] known_nil) (lB (bB (sR (sL (sR (sR (sR dom_lowered.code))))))) [js 0,y1,y2,js 3,js 4,js 5,js 6,js 7,js 8,js 9,js 10,js 11,y12,y13,js 14,js 15,js 16,js 17,js 18,js 19,js 20,js 21,js 22,js 23,js 24,js 25,js 26,js 27,js 28,js 29] H (fun e T1 H1=>(nx (fnQ (CX σ [] known_nil).ti Tryz.f56.results.toList K) fun T1 H1=>wp (CX σ [] known_nil) 12294 (sR (sR (sR (sR dom_lowered.code)))) T1 H1 (fnQ (CX σ [] known_nil).ti Tryz.f56.results.toList K)) (unblock 0 e) T1 H1)
theorem dom_lowered.L0_step {K:AV→Hp→Prop} {y1 y2 y12 y13:AV} {H:Hp} (h:bnd (binR .lss y13 y12) fun x1=>ifB x1 (bnd (shiftA y1 4) fun x2=>bnd (ldA false 1 H x2) fun x3=>bnd (shiftA y1 4) fun x4=>bnd (ldA false 1 H x4) fun x5=>bnd (ixaSl 2 x5 y13) fun x6=>bnd (shiftA x6 0) fun x7=>bnd (ldA false 1 H x7) fun x8=>callK Tryz.prog σ n_text_Lower [x8] H fun x9 H10=>kpK (x2,some 1) H H10 (bnd (ixaSl 2 x3 y13) fun x11=>bnd (shiftA x11 0) fun x12=>bnd (stA 1 H10 x12 x9) fun H13=>bnd (binR .add y13 (.lit (.int .i64 1))) fun x14=>dom_lowered.L0 σ K y1 y2 y12 x14 H13)) (bnd (ldA true 5 H y1) fun x15=>bnd (stA 5 H y2 x15) fun H16=>bnd (ldA true 5 H16 y2) fun r17=>K r17 H16)):dom_lowered.L0 σ K y1 y2 y12 y13 H :=
 fun js=>LoopP.round (CX σ [] known_nil) mixed (g:=12294) (Eq.mpr (by kernel_rfl) h)
theorem dom_lowered.run {a0:AV} {H:Hp} {K:AV→Hp→Prop} (h:boxK a0 H fun x1 H2=>allocK [.lit (.int .i64 0),.lit (.string ⟨#[]⟩),.lit (.string ⟨#[]⟩),.lit (.slice none 0 0),.lit (.slice none 0 0)] H2 fun x3 H4=>bnd (ldA true 5 H4 x1) fun x5=>callK Tryz.prog σ n_dom_copied [x5] H4 fun x6 H7=>bnd (stA 5 H7 x1 x6) fun H8=>bnd (shiftA x1 1) fun x9=>bnd (ldA false 1 H8 x9) fun x10=>callK Tryz.prog σ n_text_Lower [x10] H8 fun x11 H12=>bnd (shiftA x1 1) fun x13=>bnd (stA 1 H12 x13 x11) fun H14=>bnd (shiftA x1 4) fun x15=>bnd (ldA false 1 H14 x15) fun x16=>bnd (lenSl x16) fun x17=>dom_lowered.L0 σ K x1 x3 x17 (.lit (.int .i64 0)) H14):∃ r H1,Good Tryz.prog σ n_dom_lowered [a0] H r H1∧K r H1 :=
 good_of_wp (CX σ [] known_nil) mixed 12294 (fn:=Tryz.f56) (f:=n_dom_lowered) (c:=dom_lowered.code) (fnT_ok 56 _ (by kernel_rfl)).1 (by kernel_rfl) (fnT_ok 56 _ (by kernel_rfl)).2 (Eq.mpr (by kernel_rfl) h)
noncomputable def dom_copied.code:Code:=bodyOf Tryz.f77
theorem dom_copied.run {a0:AV} {H:Hp} {K:AV→Hp→Prop} (h:boxK a0 H fun x1 H2=>allocK [.lit (.int .i64 0),.lit (.string ⟨#[]⟩),.lit (.string ⟨#[]⟩),.lit (.slice none 0 0),.lit (.slice none 0 0)] H2 fun x3 H4=>bnd (shiftA x1 3) fun x5=>bnd (ldA false 1 H4 x5) fun x6=>callK Tryz.prog σ n_slices_Clone_string_string [x6] H4 fun x7 H8=>bnd (shiftA x1 4) fun x9=>kpK (x9,some 1) H4 H8 (bnd (ldA false 1 H8 x9) fun x10=>callK Tryz.prog σ n_slices_Clone_api_Pair_api_Pair [x10] H8 fun x11 H12=>bnd (shiftA x1 3) fun x13=>bnd (stA 1 H12 x13 x7) fun H14=>bnd (shiftA x1 4) fun x15=>bnd (stA 1 H14 x15 x11) fun H16=>bnd (ldA true 5 H16 x1) fun x17=>bnd (stA 5 H16 x3 x17) fun H18=>bnd (ldA true 5 H18 x3) fun r19=>K r19 H18)):∃ r H1,Good Tryz.prog σ n_dom_copied [a0] H r H1∧K r H1 :=
 good_of_wp (CX σ [] known_nil) mixed 0 (fn:=Tryz.f77) (f:=n_dom_copied) (c:=dom_copied.code) (fnT_ok 77 _ (by kernel_rfl)).1 (by kernel_rfl) (fnT_ok 77 _ (by kernel_rfl)).2 (Eq.mpr (by kernel_rfl) h)
noncomputable def dom_Tree_at.code:Code:=bodyOf Tryz.f78
theorem dom_Tree_at.run {a0 a1:AV} {H:Hp} {K:AV→Hp→Prop} (h:allocK [.lit (.int .i64 0),.lit (.string ⟨#[]⟩),.lit (.string ⟨#[]⟩),.lit (.slice none 0 0),.lit (.slice none 0 0),.lit (.slice none 0 0),.lit (.int .i64 0),.lit (.int .i64 0),.lit (.int .i64 0)] H fun x1 H2=>bnd (binR .lss a1 (.lit (.int .i64 0))) fun x3=>ifB x3 (bnd (bldR [.lit (.int .i64 0),.lit (.string ⟨#[]⟩),.lit (.string ⟨#[]⟩),.lit (.slice none 0 0),.lit (.slice none 0 0)] []) fun l4=>bnd (bldR [.lit (.int .i64 0),.lit (.string ⟨#[]⟩),.lit (.string ⟨#[]⟩),.lit (.slice none 0 0),.lit (.slice none 0 0),.lit (.slice none 0 0),.lit (.int .i64 0),.lit (.int .i64 0),.lit (.int .i64 0)] [(0,5,(.agg l4)),(8,1,(.lit (.int .i64 (-1))))]) fun l5=>bnd (stA 9 H2 x1 (.agg l5)) fun H6=>bnd (ldA true 9 H6 x1) fun r7=>K r7 H6) (bnd (nilR a0) fun x8=>bnd (shiftA x8 0) fun x9=>bnd (ldA false 1 H2 x9) fun x10=>bnd (lenSl x10) fun x11=>bnd (binR .geq a1 x11) fun x12=>ifB x12 (bnd (bldR [.lit (.int .i64 0),.lit (.string ⟨#[]⟩),.lit (.string ⟨#[]⟩),.lit (.slice none 0 0),.lit (.slice none 0 0)] []) fun l13=>bnd (bldR [.lit (.int .i64 0),.lit (.string ⟨#[]⟩),.lit (.string ⟨#[]⟩),.lit (.slice none 0 0),.lit (.slice none 0 0),.lit (.slice none 0 0),.lit (.int .i64 0),.lit (.int .i64 0),.lit (.int .i64 0)] [(0,5,(.agg l13)),(8,1,(.lit (.int .i64 (-1))))]) fun l14=>bnd (stA 9 H2 x1 (.agg l14)) fun H15=>bnd (ldA true 9 H15 x1) fun r16=>K r16 H15) (bnd (nilR a0) fun x17=>bnd (shiftA x17 0) fun x18=>bnd (ldA false 1 H2 x18) fun x19=>bnd (ixaSl 9 x19 a1) fun x20=>bnd (ldA true 9 H2 x20) fun x21=>bnd (stA 9 H2 x1 x21) fun H22=>bnd (ldA true 9 H22 x1) fun r23=>K r23 H22))):∃ r H1,Good Tryz.prog σ n_dom_Tree_at [a0,a1] H r H1∧K r H1 :=
 good_of_wp (CX σ [] known_nil) mixed 0 (fn:=Tryz.f78) (f:=n_dom_Tree_at) (c:=dom_Tree_at.code) (fnT_ok 78 _ (by kernel_rfl)).1 (by kernel_rfl) (fnT_ok 78 _ (by kernel_rfl)).2 (Eq.mpr (by kernel_rfl) h)
noncomputable def match_Selector.code:Code:=bodyOf Tryz.f86
theorem match_Selector.run {a0 a1 a2:AV} {H:Hp} {K:AV→Hp→Prop} (h:boxK a2 H fun x1 H2=>bnd (ldA true 1 H2 x1) fun x3=>bnd (bldSlR [.slice none 0 0] 1 1 H2 [(0,1,x3)]) fun p4=>callK Tryz.prog σ n_match_Any [a0,a1,p4.1] p4.2 fun x5 H6=>K x5 H6):∃ r H1,Good Tryz.prog σ n_match_Selector [a0,a1,a2] H r H1∧K r H1 :=
 good_of_wp (CX σ [] known_nil) mixed 0 (fn:=Tryz.f86) (f:=n_match_Selector) (c:=match_Selector.code) (fnT_ok 86 _ (by kernel_rfl)).1 (by kernel_rfl) (fnT_ok 86 _ (by kernel_rfl)).2 (Eq.mpr (by kernel_rfl) h)
noncomputable def weigh_Of.code:Code:=bodyOf Tryz.f87
theorem weigh_Of.run {a0:AV} {H:Hp} {K:AV→Hp→Prop} (h:boxK a0 H fun x1 H2=>bnd (ldA true 1 H2 x1) fun x3=>callK Tryz.prog σ n_weigh_of [x3,(.lit (.int .i64 8))] H2 fun x4 H5=>K x4 H5):∃ r H1,Good Tryz.prog σ n_weigh_Of [a0] H r H1∧K r H1 :=
 good_of_wp (CX σ [] known_nil) mixed 0 (fn:=Tryz.f87) (f:=n_weigh_Of) (c:=weigh_Of.code) (fnT_ok 87 _ (by kernel_rfl)).1 (by kernel_rfl) (fnT_ok 87 _ (by kernel_rfl)).2 (Eq.mpr (by kernel_rfl) h)
noncomputable def text_Lower.code:Code:=bodyOf Tryz.f89
noncomputable def text_Lower.Q0 (σ:Sig) (K:AV→Hp→Prop):Exit→List AV→Hp→Prop:=(nx (fnQ (CX σ [] known_nil).ti Tryz.f89.results.toList K) fun T1 H1=>wp (CX σ [] known_nil) 1800 (sR (sR (sR text_Lower.code))) T1 H1 (fnQ (CX σ [] known_nil).ti Tryz.f89.results.toList K))
noncomputable def text_Lower.L0 (σ:Sig) (K:AV→Hp→Prop) (y3 y8 y9 y10:AV) (H:Hp):Prop:=∀ js:Nat→AV,LoopP (CX σ [] known_nil) (lB (bB (sR (sL (sR (sR text_Lower.code)))))) [js 0,js 1,js 2,y3,js 4,js 5,js 6,js 7,y8,y9,y10,js 11,js 12,js 13,js 14,js 15,js 16,js 17,js 18,js 19,js 20,js 21,js 22,js 23,js 24,js 25,js 26,js 27,js 28,js 29] H (fun e T1 H1=>(text_Lower.Q0 σ K) (unblock 0 e) T1 H1)
noncomputable def text_Lower.J1 (σ:Sig) (K:AV→Hp→Prop) (y3 y8 y9 y10:AV) (H:Hp):Prop:=∀ js:Nat→AV,wp (CX σ [] known_nil) 1800 (sR (sR (sR (lB (bB (sR (sL (sR (sR text_Lower.code))))))))) [js 0,js 1,js 2,y3,js 4,js 5,js 6,js 7,y8,y9,y10,js 11,js 12,js 13,js 14,js 15,js 16,js 17,js 18,js 19,js 20,js 21,js 22,js 23,js 24,js 25,js 26,js 27,js 28,js 29] H (nx (fun e T1 H1=>(text_Lower.Q0 σ K) (unblock 0 e) T1 H1) fun T1 H1=>∀ js,LoopP (CX σ [] known_nil) (lB (bB (sR (sL (sR (sR text_Lower.code)))))) (maskA 1800 js 0 T1) H1 (fun e T1 H1=>(text_Lower.Q0 σ K) (unblock 0 e) T1 H1))
theorem text_Lower.L0_step {K:AV→Hp→Prop} {y3 y8 y9 y10:AV} {H:Hp} (h:bnd (binR .lss y10 y9) fun x1=>ifB x1 (bnd (ixaSl 1 y8 y10) fun x2=>bnd (ldA false 1 H x2) fun x3=>bnd (binR .geq x3 (.lit (.int .u8 65))) fun x4=>ifB x4 (bnd (binR .leq x3 (.lit (.int .u8 90))) fun x5=>ifB x5 (bnd (binR .add x3 (.lit (.int .u8 97))) fun x6=>bnd (binR .sub x6 (.lit (.int .u8 65))) fun x7=>bnd (ixaSl 1 y3 y10) fun x8=>bnd (stA 1 H x8 x7) fun H9=>text_Lower.J1 σ K y3 y8 y9 y10 H9) (text_Lower.J1 σ K y3 y8 y9 y10 H)) (text_Lower.J1 σ K y3 y8 y9 y10 H)) (bnd (cvToStr H y3) fun x10=>K x10 H)):text_Lower.L0 σ K y3 y8 y9 y10 H :=
 fun js=>LoopP.round (CX σ [] known_nil) mixed (g:=1800) (Eq.mpr (by kernel_rfl) h)
theorem text_Lower.J1_step {K:AV→Hp→Prop} {y3 y8 y9 y10:AV} {H:Hp} (h:bnd (binR .add y10 (.lit (.int .i64 1))) fun x1=>text_Lower.L0 σ K y3 y8 y9 x1 H):text_Lower.J1 σ K y3 y8 y9 y10 H :=
 fun js=>Eq.mpr (by kernel_rfl) h
theorem text_Lower.run {a0:AV} {H:Hp} {K:AV→Hp→Prop} (h:bnd (cvToBytes H a0) fun p1=>bnd (lenSl p1.1) fun x2=>text_Lower.L0 σ K p1.1 p1.1 x2 (.lit (.int .i64 0)) p1.2):∃ r H1,Good Tryz.prog σ n_text_Lower [a0] H r H1∧K r H1 :=
 good_of_wp (CX σ [] known_nil) mixed 1800 (fn:=Tryz.f89) (f:=n_text_Lower) (c:=text_Lower.code) (fnT_ok 89 _ (by kernel_rfl)).1 (by kernel_rfl) (fnT_ok 89 _ (by kernel_rfl)).2 (Eq.mpr (by kernel_rfl) h)
noncomputable def slices_Clone_string_string.code:Code:=bodyOf Tryz.f106
theorem slices_Clone_string_string.run {a0:AV} {H:Hp} {K:AV→Hp→Prop} (h:bnd (eqSlR .eql a0 (.lit (.slice none 0 0))) fun x1=>ifB x1 (K (.lit (.slice none 0 0)) H) (bnd (bldSlR [.string ⟨#[]⟩] 1 0 H []) fun p2=>bnd (appR false 1 16 p2.2 p2.1 a0) fun p3=>K p3.1 p3.2)):∃ r H1,Good Tryz.prog σ n_slices_Clone_string_string [a0] H r H1∧K r H1 :=
 good_of_wp (CX σ [] known_nil) mixed 0 (fn:=Tryz.f106) (f:=n_slices_Clone_string_string) (c:=slices_Clone_string_string.code) (fnT_ok 106 _ (by kernel_rfl)).1 (by kernel_rfl) (fnT_ok 106 _ (by kernel_rfl)).2 (Eq.mpr (by kernel_rfl) h)
noncomputable def slices_Clone_api_Pair_api_Pair.code:Code:=bodyOf Tryz.f107
theorem slices_Clone_api_Pair_api_Pair.run {a0:AV} {H:Hp} {K:AV→Hp→Prop} (h:bnd (eqSlR .eql a0 (.lit (.slice none 0 0))) fun x1=>ifB x1 (K (.lit (.slice none 0 0)) H) (bnd (bldSlR [.string ⟨#[]⟩,.string ⟨#[]⟩] 2 0 H []) fun p2=>bnd (appR false 2 32 p2.2 p2.1 a0) fun p3=>K p3.1 p3.2)):∃ r H1,Good Tryz.prog σ n_slices_Clone_api_Pair_api_Pair [a0] H r H1∧K r H1 :=
 good_of_wp (CX σ [] known_nil) mixed 0 (fn:=Tryz.f107) (f:=n_slices_Clone_api_Pair_api_Pair) (c:=slices_Clone_api_Pair_api_Pair.code) (fnT_ok 107 _ (by kernel_rfl)).1 (by kernel_rfl) (fnT_ok 107 _ (by kernel_rfl)).2 (Eq.mpr (by kernel_rfl) h)
noncomputable def match_Any.code:Code:=bodyOf Tryz.f115
noncomputable def match_Any.L0 (σ:Sig) (K:AV→Hp→Prop) (y1 y2 y7 y17 y18:AV) (H:Hp):Prop:=∀ js:Nat→AV,LoopP (CX σ [] known_nil) (lB (bB (sR (sL (sR (sR (sR match_Any.code))))))) [js 0,y1,y2,js 3,js 4,js 5,js 6,y7,js 8,js 9,js 10,js 11,js 12,js 13,js 14,js 15,js 16,y17,y18,js 19,js 20,js 21,js 22,js 23,js 24,js 25,js 26,js 27,js 28,js 29,js 30,js 31,js 32,js 33,js 34,js 35,js 36] H (fun e T1 H1=>(nx (fnQ (CX σ [] known_nil).ti Tryz.f115.results.toList K) fun T1 H1=>wp (CX σ [] known_nil) 393350 (sR (sR (sR (sR match_Any.code)))) T1 H1 (fnQ (CX σ [] known_nil).ti Tryz.f115.results.toList K)) (unblock 0 e) T1 H1)
theorem match_Any.L0_step {K:AV→Hp→Prop} {y1 y2 y7 y17 y18:AV} {H:Hp} (h:bnd (binR .lss y18 y17) fun x1=>ifB x1 (bnd (binR .add y18 (.lit (.int .i64 1))) fun x2=>bnd (slSl 1 y2 (some y18) (some x2) none) fun x3=>callK Tryz.prog σ n_match_may [x3,(.lit (.int .i64 8))] H fun x4 H5=>ifB x4 (callK Tryz.prog σ n_match_asked_add [y7,x3] H5 fun x6 H7=>callK Tryz.prog σ n_match_asked_any [y7,y1,x6] H7 fun x8 H9=>ifB x8 (K (.lit (.bool true)) H9) (bnd (binR .add y18 (.lit (.int .i64 1))) fun x10=>match_Any.L0 σ K y1 y2 y7 y17 x10 H9)) (bnd (binR .add y18 (.lit (.int .i64 1))) fun x11=>match_Any.L0 σ K y1 y2 y7 y17 x11 H5)) (K (.lit (.bool false)) H)):match_Any.L0 σ K y1 y2 y7 y17 y18 H :=
 fun js=>LoopP.round (CX σ [] known_nil) mixed (g:=393350) (Eq.mpr (by kernel_rfl) h)
theorem match_Any.run {a0 a1 a2:AV} {H:Hp} {K:AV→Hp→Prop} (h:callK Tryz.prog σ n_match_is [a0,a1] H fun x1 H2=>bnd (unR .not x1) fun x3=>ifB x3 (K (.lit (.bool false)) H2) (callK Tryz.prog σ n_match_begin [a0] H2 fun x4 H5=>bnd (lenSl a2) fun x6=>match_Any.L0 σ K a1 a2 x4 x6 (.lit (.int .i64 0)) H5)):∃ r H1,Good Tryz.prog σ n_match_Any [a0,a1,a2] H r H1∧K r H1 :=
 good_of_wp (CX σ [] known_nil) mixed 393350 (fn:=Tryz.f115) (f:=n_match_Any) (c:=match_Any.code) (fnT_ok 115 _ (by kernel_rfl)).1 (by kernel_rfl) (fnT_ok 115 _ (by kernel_rfl)).2 (Eq.mpr (by kernel_rfl) h)
noncomputable def weigh_of.code:Code:=bodyOf Tryz.f116
noncomputable def weigh_of.L0 (σ:Sig) (K:AV→Hp→Prop) (y1 y5 y9 y10 y11:AV) (H:Hp):Prop:=∀ js:Nat→AV,LoopP (CX σ [] known_nil) (lB (bB (sR (sL (sR (sR weigh_of.code)))))) [js 0,y1,js 2,js 3,js 4,y5,js 6,js 7,js 8,y9,y10,y11,js 12,js 13,js 14,js 15,js 16,js 17,js 18,js 19,js 20,js 21] H (fun e T1 H1=>(nx (fnQ (CX σ [] known_nil).ti Tryz.f116.results.toList K) fun T1 H1=>wp (CX σ [] known_nil) 3618 (sR (sR (sR weigh_of.code))) T1 H1 (fnQ (CX σ [] known_nil).ti Tryz.f116.results.toList K)) (unblock 0 e) T1 H1)
theorem weigh_of.L0_step {K:AV→Hp→Prop} {y1 y5 y9 y10 y11:AV} {H:Hp} (h:bnd (binR .lss y11 y10) fun x1=>ifB x1 (bnd (ixaSl 6 y9 y11) fun x2=>bnd (ldA true 6 H x2) fun x3=>allocK [.lit (.int .i64 0),.lit (.string ⟨#[]⟩),.lit (.slice none 0 0),.lit (.slice none 0 0),.lit (.slice none 0 0),.lit (.slice none 0 0)] H fun x4 H5=>bnd (stA 6 H5 x4 x3) fun H6=>bnd (shiftA x4 1) fun x7=>bnd (ldA true 5 H6 x7) fun x8=>callK Tryz.prog σ n_weigh_sums_compound [y5,x8,y1] H6 fun x9 H10=>bnd (binR .add y11 (.lit (.int .i64 1))) fun x11=>weigh_of.L0 σ K y1 y5 y9 y10 x11 H10) (bnd (ldA true 3 H y5) fun x12=>callK Tryz.prog σ n_weigh_sums_weight [x12] H fun x13 H14=>K x13 H14)):weigh_of.L0 σ K y1 y5 y9 y10 y11 H :=
 fun js=>LoopP.round (CX σ [] known_nil) mixed (g:=3618) (Eq.mpr (by kernel_rfl) h)
theorem weigh_of.run {a0 a1:AV} {H:Hp} {K:AV→Hp→Prop} (h:boxK a0 H fun x1 H2=>allocK [.lit (.int .i64 0),.lit (.int .i64 0),.lit (.int .i64 0)] H2 fun x3 H4=>bnd (shiftA x1 0) fun x5=>bnd (ldA false 1 H4 x5) fun x6=>bnd (lenSl x6) fun x7=>weigh_of.L0 σ K a1 x3 x6 x7 (.lit (.int .i64 0)) H4):∃ r H1,Good Tryz.prog σ n_weigh_of [a0,a1] H r H1∧K r H1 :=
 good_of_wp (CX σ [] known_nil) mixed 3618 (fn:=Tryz.f116) (f:=n_weigh_of) (c:=weigh_of.code) (fnT_ok 116 _ (by kernel_rfl)).1 (by kernel_rfl) (fnT_ok 116 _ (by kernel_rfl)).2 (Eq.mpr (by kernel_rfl) h)
end Go.Proofs.YthdcghnjndhecaaGreat.Ev
