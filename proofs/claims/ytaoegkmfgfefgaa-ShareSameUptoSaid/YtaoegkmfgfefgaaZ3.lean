/- The walks, part 3: the evaluator, the functions, the laws. Conditions: none. -/
import Derived.Lib.Index
import Derived.Lib.Strings
import Derived.Test.YtaoegkmfgfefgaaProg
import Derived.Test.YtaoegkmfgfefgaaZ2
namespace Go.Proofs.Ytaoegkmfgfefgaa.Ev
set_option linter.unusedVariables false
set_option linter.unusedSimpArgs false
structure At where
 name : ByteArray
 op : Int
 text : ByteArray
mutual
inductive Pt where
 | mk (comb : Int) (c : Cp)
inductive Cp where
 | mk (tag : ByteArray) (ids classes : List ByteArray) (attrs : List At) (pseudos : List Ps)
inductive Ps where
 | mk (kind a b : Int) (list : List (List Pt))
end
def Pt.comb : Pt → Int | .mk k _ => k
def Pt.c : Pt → Cp | .mk _ c => c
def Cp.tag : Cp → ByteArray | .mk t _ _ _ _ => t
def Cp.ids : Cp → List ByteArray | .mk _ i _ _ _ => i
def Cp.classes : Cp → List ByteArray | .mk _ _ c _ _ => c
def Cp.attrs : Cp → List At | .mk _ _ _ a _ => a
def Cp.pseudos : Cp → List Ps | .mk _ _ _ _ p => p
def Ps.kind : Ps → Int | .mk k _ _ _ => k
def Ps.a : Ps → Int | .mk _ a _ _ => a
def Ps.b : Ps → Int | .mk _ _ b _ => b
def Ps.list : Ps → List (List Pt) | .mk _ _ _ l => l
abbrev Sl := List Pt
structure ST where
 prop : Int
 kind : Int
 n : Int
 imp : Bool
structure RL where
 sels : List Sl
 sets : List ST
structure Nd where
 parent : Int
 tag : ByteArray
 id : ByteArray
 classes : List ByteArray
 attrs : List (ByteArray × ByteArray)
def encAt (a : At) : List AV := [Sx a.name, I a.op, Sx a.text]
def strs (l : List ByteArray) : AV := .imm 1 (l.map fun s => [Sx s])
mutual
def encPt : Pt → List AV
 | .mk k c => I k :: encCp c
def encCp : Cp → List AV
 | .mk t i c a p => [Sx t, strs i, strs c, .imm 3 (a.map encAt), .imm 4 (encPss p)]
def encPs : Ps → List AV
 | .mk k a b l => [I k, I a, I b, .imm 1 (encSls l)]
def encPts : List Pt → List (List AV)
 | [] => []
 | p :: r => encPt p :: encPts r
def encPss : List Ps → List (List AV)
 | [] => []
 | p :: r => encPs p :: encPss r
def encSls : List (List Pt) → List (List AV)
 | [] => []
 | s :: r => [.imm 6 (encPts s)] :: encSls r
end
theorem encPts_map : ∀ (l : List Pt), encPts l = l.map encPt
 | [] => rfl
 | p :: r => by rw [encPts, encPts_map r]; rfl
theorem encPss_map : ∀ (l : List Ps), encPss l = l.map encPs
 | [] => rfl
 | p :: r => by rw [encPss, encPss_map r]; rfl
def encSl (s : Sl) : List AV := [.imm 6 (s.map encPt)]
theorem encSls_map : ∀ (l : List Sl), encSls l = l.map encSl
 | [] => rfl
 | s :: r => by rw [encSls, encSls_map r, encPts_map]; rfl
theorem encPt_eq (p : Pt) : encPt p = I p.comb :: encCp p.c := by cases p; rfl
theorem encCp_eq (c : Cp) : encCp c = [Sx c.tag, strs c.ids, strs c.classes, .imm 3 (c.attrs.map encAt), .imm 4 (c.pseudos.map encPs)] := by
 cases c; rw [encCp, encPss_map]; rfl
theorem encPs_eq (p : Ps) : encPs p = [I p.kind, I p.a, I p.b, .imm 1 (p.list.map encSl)] := by
 cases p; rw [encPs, encSls_map]; rfl
@[simp] theorem len_encPt (p : Pt) : (encPt p).length = 6 := by rw [encPt_eq, encCp_eq]; rfl
@[simp] theorem len_encCp (p : Cp) : (encCp p).length = 5 := by rw [encCp_eq]; rfl
@[simp] theorem len_encPs (p : Ps) : (encPs p).length = 4 := by rw [encPs_eq]; rfl
@[simp] theorem len_encSl (p : Sl) : (encSl p).length = 1 := rfl
@[simp] theorem len_encAt (p : At) : (encAt p).length = 3 := rfl
def sls (l : List Sl) : AV := .imm 1 (l.map encSl)
def encST (s : ST) : List AV := [I s.prop, I s.kind, I s.n, Bo s.imp]
def encRL (r : RL) : List AV := [sls r.sels, .imm 4 (r.sets.map encST)]
def rls (l : List RL) : AV := .imm 2 (l.map encRL)
def encPr (p : ByteArray × ByteArray) : List AV := [Sx p.1, Sx p.2]
def encNd (n : Nd) : List AV := [I n.parent, Sx n.tag, Sx n.id, strs n.classes, .imm 2 (n.attrs.map encPr)]
def nds (l : List Nd) : AV := .imm 5 (l.map encNd)
theorem noIds_map {α : Type} (f : α → List AV) (hf : ∀ x, noIds (f x) = true) : ∀ l : List α, noIdss (l.map f) = true
 | [] => rfl
 | x :: r => by simp only [List.map_cons, noIdss, hf, noIds_map f hf r, Bool.and_self]
@[simp] theorem noId_strs (l : List ByteArray) : noId (strs l) = true := by
 unfold strs; simp only [noId]; exact noIds_map _ (fun _ => rfl) l
theorem noId_At (a : At) : noIds (encAt a) = true := rfl
mutual
theorem noId_Pt : ∀ (p : Pt), noIds (encPt p) = true
 | .mk k c => by rw [encPt]; simp only [noIds, noId, noId_Cp c, Bool.and_self]
theorem noId_Cp : ∀ (c : Cp), noIds (encCp c) = true
 | .mk t i c a p => by rw [encCp]; simp only [noIds, noId, noId_strs, noIds_map _ noId_At, noId_Pss p, Bool.and_self]
theorem noId_Ps : ∀ (p : Ps), noIds (encPs p) = true
 | .mk k a b l => by rw [encPs]; simp only [noIds, noId, noId_Sls l, Bool.and_self]
theorem noId_Pts : ∀ (l : List Pt), noIdss (encPts l) = true
 | [] => rfl
 | p :: r => by rw [encPts]; simp only [noIdss, noId_Pt p, noId_Pts r, Bool.and_self]
theorem noId_Pss : ∀ (l : List Ps), noIdss (encPss l) = true
 | [] => rfl
 | p :: r => by rw [encPss]; simp only [noIdss, noId_Ps p, noId_Pss r, Bool.and_self]
theorem noId_Sls : ∀ (l : List (List Pt)), noIdss (encSls l) = true
 | [] => rfl
 | s :: r => by rw [encSls]; simp only [noIdss, noIds, noId, noId_Pts s, noId_Sls r, Bool.and_self]
end
theorem noId_Sl (s : Sl) : noIds (encSl s) = true := by
 unfold encSl; rw [← encPts_map]; simp only [noIds, noId, noId_Pts, Bool.and_self]
@[simp] theorem noId_sls (l : List Sl) : noId (sls l) = true := by unfold sls; simp only [noId]; exact noIds_map _ noId_Sl l
theorem noId_ST (s : ST) : noIds (encST s) = true := rfl
theorem noId_RL (r : RL) : noIds (encRL r) = true := by unfold encRL; simp only [noIds, noId, noId_sls, noIds_map _ noId_ST, Bool.and_self]
@[simp] theorem noId_rls (l : List RL) : noId (rls l) = true := by unfold rls; simp only [noId]; exact noIds_map _ noId_RL l
theorem noId_Nd (n : Nd) : noIds (encNd n) = true := by unfold encNd; simp only [noIds, noId, noId_strs, noIds_map encPr (fun _ => rfl), Bool.and_self]
@[simp] theorem noId_nds (l : List Nd) : noId (nds l) = true := by unfold nds; simp only [noId]; exact noIds_map _ noId_Nd l
end Go.Proofs.Ytaoegkmfgfefgaa.Ev
namespace Go.Proofs.Ytaoegkmfgfefgaa.Ev
@[simp] theorem one_strs (l : List ByteArray) : AV.one (strs l) = true := rfl
@[simp] theorem one_Cp (c : Cp) : (encCp c).all AV.one = true := by rw [encCp_eq]; rfl
@[simp] theorem one_Pt (p : Pt) : (encPt p).all AV.one = true := by rw [encPt_eq, List.all_cons, one_Cp]; rfl
@[simp] theorem one_Ps (p : Ps) : (encPs p).all AV.one = true := by rw [encPs_eq]; rfl
@[simp] theorem one_Sl (p : Sl) : (encSl p).all AV.one = true := rfl
@[simp] theorem one_At (p : At) : (encAt p).all AV.one = true := rfl
@[simp] theorem one_RL (p : RL) : (encRL p).all AV.one = true := rfl
@[simp] theorem one_Nd (p : Nd) : (encNd p).all AV.one = true := rfl
@[simp] theorem one_ST (p : ST) : (encST p).all AV.one = true := rfl
@[simp] theorem len_encRL (p : RL) : (encRL p).length = 2 := rfl
@[simp] theorem len_encNd (p : Nd) : (encNd p).length = 5 := rfl
@[simp] theorem len_encST (p : ST) : (encST p).length = 4 := rfl
theorem drop_get {α : Type} {l : List α} {k : Nat} {x : α} (h : l[k]? = some x) : l.drop k = x :: l.drop (k + 1) := by
 obtain ⟨hlt, rfl⟩ := List.getElem?_eq_some_iff.1 h
 exact List.drop_eq_getElem_cons hlt
theorem get_lt {α : Type} {l : List α} {k : Nat} (h : k < l.length) : ∃ x, l[k]? = some x := ⟨l[k], List.getElem?_eq_getElem h⟩
end Go.Proofs.Ytaoegkmfgfefgaa.Ev
namespace Go.Proofs.Ytaoegkmfgfefgaa.Ev
def i64 (n : Int) : Prop := -9223372036854775808 ≤ n ∧ n ≤ 9223372036854775807
def strsWf (N : Nat) (l : List ByteArray) : Prop := l.length ≤ N ∧ ∀ s ∈ l, s.data.size ≤ N
mutual
def Pt.wf (N : Nat) : Pt → Prop
 | .mk k c => i64 k ∧ Cp.wf N c
def Cp.wf (N : Nat) : Cp → Prop
 | .mk t i c a p => t.data.size ≤ N ∧ strsWf N i ∧ strsWf N c ∧ (a.length ≤ N ∧ ∀ x ∈ a, x.name.data.size ≤ N ∧ i64 x.op ∧ x.text.data.size ≤ N) ∧ p.length ≤ N ∧ wfPss N p
def Ps.wf (N : Nat) : Ps → Prop
 | .mk k a b l => i64 k ∧ i64 a ∧ i64 b ∧ l.length ≤ N ∧ wfSls N l
def wfPts (N : Nat) : List Pt → Prop
 | [] => True
 | p :: r => Pt.wf N p ∧ wfPts N r
def wfPss (N : Nat) : List Ps → Prop
 | [] => True
 | p :: r => Ps.wf N p ∧ wfPss N r
def wfSls (N : Nat) : List (List Pt) → Prop
 | [] => True
 | s :: r => (s.length ≤ N ∧ wfPts N s) ∧ wfSls N r
end
theorem wfPts_mem {N : Nat} : ∀ {l : List Pt}, wfPts N l → ∀ p ∈ l, Pt.wf N p
 | p :: r, h, q, hq => by
  rw [wfPts] at h
  rcases List.mem_cons.1 hq with rfl | hq
  ·exact h.1
  ·exact wfPts_mem h.2 q hq
theorem wfPss_mem {N : Nat} : ∀ {l : List Ps}, wfPss N l → ∀ p ∈ l, Ps.wf N p
 | p :: r, h, q, hq => by
  rw [wfPss] at h
  rcases List.mem_cons.1 hq with rfl | hq
  ·exact h.1
  ·exact wfPss_mem h.2 q hq
def slWf (N : Nat) (s : Sl) : Prop := s.length ≤ N ∧ ∀ p ∈ s, Pt.wf N p
theorem wfSls_mem {N : Nat} : ∀ {l : List Sl}, wfSls N l → ∀ s ∈ l, slWf N s
 | s :: r, h, q, hq => by
  rw [wfSls] at h
  rcases List.mem_cons.1 hq with rfl | hq
  ·exact ⟨h.1.1, wfPts_mem h.1.2⟩
  ·exact wfSls_mem h.2 q hq
theorem wfPts_of {N : Nat} : ∀ {l : List Pt}, (∀ p ∈ l, Pt.wf N p) → wfPts N l
 | [], _ => by rw [wfPts]; trivial
 | p :: r, h => by rw [wfPts]; exact ⟨h p (by simp), wfPts_of fun q hq => h q (by simp [hq])⟩
theorem wfPss_of {N : Nat} : ∀ {l : List Ps}, (∀ p ∈ l, Ps.wf N p) → wfPss N l
 | [], _ => by rw [wfPss]; trivial
 | p :: r, h => by rw [wfPss]; exact ⟨h p (by simp), wfPss_of fun q hq => h q (by simp [hq])⟩
theorem wfSls_of {N : Nat} : ∀ {l : List Sl}, (∀ p ∈ l, slWf N p) → wfSls N l
 | [], _ => by rw [wfSls]; trivial
 | p :: r, h => by rw [wfSls]; exact ⟨⟨(h p (by simp)).1, wfPts_of (h p (by simp)).2⟩, wfSls_of fun q hq => h q (by simp [hq])⟩
def slsWf (N : Nat) (l : List Sl) : Prop := l.length ≤ N ∧ ∀ s ∈ l, slWf N s
structure CpWf (N : Nat) (c : Cp) : Prop where
 tag : c.tag.data.size ≤ N
 ids : strsWf N c.ids
 classes : strsWf N c.classes
 attrsL : c.attrs.length ≤ N
 attrs : ∀ x ∈ c.attrs, x.name.data.size ≤ N ∧ i64 x.op ∧ x.text.data.size ≤ N
 psL : c.pseudos.length ≤ N
 ps : ∀ p ∈ c.pseudos, Ps.wf N p
theorem Cp.wf_iff {N : Nat} {c : Cp} : Cp.wf N c ↔ CpWf N c := by
 cases c
 rw [Cp.wf]
 exact ⟨fun ⟨a, b, c, d, e, f⟩ => ⟨a, b, c, d.1, d.2, e, wfPss_mem f⟩, fun ⟨a, b, c, d, d', e, f⟩ => ⟨a, b, c, ⟨d, d'⟩, e, wfPss_of f⟩⟩
theorem Pt.wf_iff {N : Nat} {p : Pt} : Pt.wf N p ↔ i64 p.comb ∧ CpWf N p.c := by
 cases p; rw [Pt.wf, Cp.wf_iff]; rfl
theorem Ps.wf_iff {N : Nat} {p : Ps} : Ps.wf N p ↔ i64 p.kind ∧ i64 p.a ∧ i64 p.b ∧ slsWf N p.list := by
 cases p; rw [Ps.wf]
 exact ⟨fun ⟨a, b, c, d, e⟩ => ⟨a, b, c, d, wfSls_mem e⟩, fun ⟨a, b, c, d⟩ => ⟨a, b, c, d.1, wfSls_of d.2⟩⟩
abbrev Lmax : Nat := 9223372036854775807
theorem wr_succL {k n N : Nat} (h : k < n) (hn : n ≤ N) (hN : N ≤ Lmax := by decide) : wr .i64 ((k : Int) + 1) = ((k + 1 : Nat) : Int) := by
 have : Lmax = 9223372036854775807 := rfl
 rw [wr64 (by omega) (by omega)]; rfl
end Go.Proofs.Ytaoegkmfgfefgaa.Ev
namespace Go.Proofs.Ytaoegkmfgfefgaa.Ev
@[simp] theorem len_strs (l : List ByteArray) : lenSl (strs l) = some (.lit (.int .i64 l.length)) := by simp [strs]
@[simp] theorem len_sls (l : List Sl) : lenSl (sls l) = some (.lit (.int .i64 l.length)) := by simp [sls]
@[simp] theorem len_rls (l : List RL) : lenSl (rls l) = some (.lit (.int .i64 l.length)) := by simp [rls]
@[simp] theorem len_nds (l : List Nd) : lenSl (nds l) = some (.lit (.int .i64 l.length)) := by simp [nds]
end Go.Proofs.Ytaoegkmfgfefgaa.Ev
namespace Go.Proofs.Ytaoegkmfgfefgaa.Ev
@[simp] theorem ldL_sl (s : Sl) : ldL true 1 (encSl s) = some (.agg (encSl s)) := rfl
@[simp] theorem ldL_pt (s : Pt) : ldL true 6 (encPt s) = some (.agg (encPt s)) := ldL_all (len_encPt s)
@[simp] theorem ldL_cp (s : Cp) : ldL true 5 (encCp s) = some (.agg (encCp s)) := ldL_all (len_encCp s)
@[simp] theorem ldL_ps (s : Ps) : ldL true 4 (encPs s) = some (.agg (encPs s)) := ldL_all (len_encPs s)
@[simp] theorem ldL_at (s : At) : ldL true 3 (encAt s) = some (.agg (encAt s)) := rfl
@[simp] theorem ldL_nd (s : Nd) : ldL true 5 (encNd s) = some (.agg (encNd s)) := rfl
@[simp] theorem ldL_rl (s : RL) : ldL true 2 (encRL s) = some (.agg (encRL s)) := rfl
@[simp] theorem ldL_st (s : ST) : ldL true 4 (encST s) = some (.agg (encST s)) := rfl
@[simp] theorem ldL_pr (s : ByteArray × ByteArray) : ldL true 2 (encPr s) = some (.agg (encPr s)) := rfl
@[simp] theorem ov_sl (c : AV) (s : Sl) : overlay [c] 0 (encSl s) = encSl s := rfl
end Go.Proofs.Ytaoegkmfgfefgaa.Ev
namespace Go.Proofs.Ytaoegkmfgfefgaa.Ev
@[simp] theorem tail_encPt (p : Pt) : (encPt p).tail = encCp p.c := by rw [encPt_eq]; rfl
end Go.Proofs.Ytaoegkmfgfefgaa.Ev
namespace Go.Proofs.Ytaoegkmfgfefgaa.Ev
@[simp] theorem f_encPs0 (x : Ps) : ldL false 1 (encPs x) = some (I x.kind) := by rw [encPs_eq]; rfl
@[simp] theorem f_encPs1 (x : Ps) : ldL false 1 (encPs x).tail = some (I x.a) := by rw [encPs_eq]; rfl
@[simp] theorem f_encPs2 (x : Ps) : ldL false 1 ((encPs x).drop 2) = some (I x.b) := by rw [encPs_eq]; rfl
@[simp] theorem f_encPs3 (x : Ps) : ldL false 1 ((encPs x).drop 3) = some (.imm 1 (x.list.map encSl)) := by rw [encPs_eq]; rfl
@[simp] theorem f_encCp0 (x : Cp) : ldL false 1 (encCp x) = some (Sx x.tag) := by rw [encCp_eq]; rfl
@[simp] theorem f_encCp1 (x : Cp) : ldL false 1 (encCp x).tail = some (strs x.ids) := by rw [encCp_eq]; rfl
theorem f_encCp1' (x : Cp) : ldL false 1 ((encCp x).drop 1) = some (strs x.ids) := by rw [encCp_eq]; rfl
@[simp] theorem f_encCp2 (x : Cp) : ldL false 1 ((encCp x).drop 2) = some (strs x.classes) := by rw [encCp_eq]; rfl
@[simp] theorem f_encCp3 (x : Cp) : ldL false 1 ((encCp x).drop 3) = some (.imm 3 (x.attrs.map encAt)) := by rw [encCp_eq]; rfl
@[simp] theorem f_encCp4 (x : Cp) : ldL false 1 ((encCp x).drop 4) = some (.imm 4 (x.pseudos.map encPs)) := by rw [encCp_eq]; rfl
@[simp] theorem f_encPt0 (x : Pt) : ldL false 1 (encPt x) = some (I x.comb) := by rw [encPt_eq]; rfl
@[simp] theorem f_encSl0 (x : Sl) : ldL false 1 (encSl x) = some (.imm 6 (x.map encPt)) := rfl
@[simp] theorem f_encAt0 (x : At) : ldL false 1 (encAt x) = some (Sx x.name) := rfl
@[simp] theorem f_encAt1 (x : At) : ldL false 1 (encAt x).tail = some (I x.op) := rfl
@[simp] theorem f_encAt2 (x : At) : ldL false 1 ((encAt x).drop 2) = some (Sx x.text) := rfl
@[simp] theorem f_encNd0 (x : Nd) : ldL false 1 (encNd x) = some (I x.parent) := rfl
@[simp] theorem f_encNd1 (x : Nd) : ldL false 1 (encNd x).tail = some (Sx x.tag) := rfl
theorem f_encNd1' (x : Nd) : ldL false 1 ((encNd x).drop 1) = some (Sx x.tag) := rfl
@[simp] theorem f_encNd2 (x : Nd) : ldL false 1 ((encNd x).drop 2) = some (Sx x.id) := rfl
@[simp] theorem f_encNd3 (x : Nd) : ldL false 1 ((encNd x).drop 3) = some (strs x.classes) := rfl
@[simp] theorem f_encNd4 (x : Nd) : ldL false 1 ((encNd x).drop 4) = some (.imm 2 (x.attrs.map encPr)) := rfl
@[simp] theorem f_encRL0 (x : RL) : ldL false 1 (encRL x) = some (sls x.sels) := rfl
@[simp] theorem f_encRL1 (x : RL) : ldL false 1 (encRL x).tail = some (.imm 4 (x.sets.map encST)) := rfl
@[simp] theorem f_encST0 (x : ST) : ldL false 1 (encST x) = some (I x.prop) := rfl
@[simp] theorem f_encST1 (x : ST) : ldL false 1 (encST x).tail = some (I x.kind) := rfl
@[simp] theorem f_encST2 (x : ST) : ldL false 1 ((encST x).drop 2) = some (I x.n) := rfl
@[simp] theorem f_encST3 (x : ST) : ldL false 1 ((encST x).drop 3) = some (Bo x.imp) := rfl
@[simp] theorem f_encPr0 (x : ByteArray × ByteArray) : ldL false 1 (encPr x) = some (Sx x.1) := rfl
@[simp] theorem f_encPr1 (x : ByteArray × ByteArray) : ldL false 1 (encPr x).tail = some (Sx x.2) := rfl
theorem f_encPr1' (x : ByteArray × ByteArray) : ldL false 1 ((encPr x).drop 1) = some (Sx x.2) := rfl
theorem ov_Cp {l : List AV} (x : Cp) (h : l.length = 5) : overlay l 0 (encCp x) = encCp x := overlay_all (by rw [len_encCp, h])
theorem ov_Ps {l : List AV} (x : Ps) (h : l.length = 4) : overlay l 0 (encPs x) = encPs x := overlay_all (by rw [len_encPs, h])
theorem ov_Pt {l : List AV} (x : Pt) (h : l.length = 6) : overlay l 0 (encPt x) = encPt x := overlay_all (by rw [len_encPt, h])
end Go.Proofs.Ytaoegkmfgfefgaa.Ev
namespace Go.Proofs.Ytaoegkmfgfefgaa.Ev
set_option linter.unusedVariables false
set_option linter.unusedSimpArgs false
theorem flat_drop {sz : Nat} : ∀ {rows : List (List AV)} {w : Nat} (hs : ∀ r ∈ rows, r.length = sz) (h : w < rows.length), rows.flatten.drop (w * sz) = rows[w] ++ (rows.drop (w + 1)).flatten
 | r :: rs, 0, hs, h => by simp
 | r :: rs, w + 1, hs, h => by
  have hr : r.length = sz := hs r (by simp)
  have e : (w + 1) * sz = sz + w * sz := by rw [Nat.succ_mul, Nat.add_comm]
  have e1 : (r ++ rs.flatten).drop sz = rs.flatten := by rw [← hr]; simp
  rw [List.flatten_cons, e, ← List.drop_drop, e1]
  exact flat_drop (fun r hr => hs r (by simp [hr])) (by simpa using h)
theorem overlay_app_right {a b : List AV} {k : Nat} {xs : List AV} : overlay (a ++ b) (a.length + k) xs = a ++ overlay b k xs := by
 unfold overlay
 rw [Nat.add_assoc, List.take_append, List.drop_append, List.take_of_length_le (by omega), List.drop_eq_nil_of_le (by omega)]
 simp
theorem overlay_app_left {a b : List AV} {k : Nat} {xs : List AV} (h : k + xs.length ≤ a.length) : overlay (a ++ b) k xs = overlay a k xs ++ b := by
 unfold overlay
 rw [List.take_append_of_le_length (by omega), List.drop_append_of_le_length h]
 simp
theorem flat_overlay {sz : Nat} {xs : List AV} {k : Nat} (hk : k + xs.length ≤ sz) : ∀ {rows : List (List AV)} {w : Nat} (hs : ∀ r ∈ rows, r.length = sz) (h : w < rows.length), overlay rows.flatten (w * sz + k) xs = (rows.set w (overlay rows[w] k xs)).flatten
 | r :: rs, 0, hs, h => by
  have hr : r.length = sz := hs r (by simp)
  simp only [Nat.zero_mul, Nat.zero_add, List.flatten_cons, List.getElem_cons_zero, List.set_cons_zero]
  exact overlay_app_left (by omega)
 | r :: rs, w + 1, hs, h => by
  have hr : r.length = sz := hs r (by simp)
  have e : (w + 1) * sz + k = r.length + (w * sz + k) := by rw [Nat.succ_mul, hr]; omega
  simp only [List.flatten_cons, List.getElem_cons_succ, List.set_cons_succ]
  rw [e, overlay_app_right, flat_overlay hk (fun r hr => hs r (by simp [hr])) (by simpa using h)]
end Go.Proofs.Ytaoegkmfgfefgaa.Ev
namespace Go.Proofs.Ytaoegkmfgfefgaa.Ev
set_option linter.unusedVariables false
set_option linter.unusedSimpArgs false
def Nd.none : Nd := ⟨0, ⟨#[]⟩, ⟨#[]⟩, [], []⟩
def ndAt (L : List Nd) (i : Nat) : Nd := L.getD i Nd.none
def par (L : List Nd) (i : Nat) : Int := (ndAt L i).parent
def kids (L : List Nd) (m e : Nat) : List Nat := (List.range m).filter fun j => decide (0 < j) && decide (par L j = e)
def sibs (L : List Nd) (e : Nat) : List Nat := (List.range e).filter fun j => decide (0 < j) && decide (par L j = par L e)
def lastI (l : List Nat) : Int := match l.getLast? with | some j => j | none => -1
def place (L : List Nd) (e : Nat) : Int := (sibs L e).length + 1
def before (L : List Nd) (e : Nat) : Int := lastI (sibs L e)
structure Built (L : List Nd) (m : Nat) (d : List Nat) : Prop where
 len : d.length = m
 le : m ≤ L.length
 root : 0 < m → par L 0 = -1 ∧ d[0]? = some 0
 step : ∀ i, 0 < i → i < m → ∃ p x : Nat, par L i = p ∧ p < i ∧ d[p]? = some x ∧ d[i]? = some (x + 1) ∧ x + 1 ≤ 256
theorem Built.nil (L : List Nd) : Built L 0 [] := ⟨rfl, Nat.zero_le _, fun h => absurd h (Nat.lt_irrefl 0), fun i h0 h => absurd h (Nat.not_lt_zero i)⟩
theorem Built.first {L : List Nd} (hl : 0 < L.length) (h : par L 0 = -1) : Built L 1 [0] := ⟨rfl, hl, fun _ => ⟨h, rfl⟩, fun i h0 h => by omega⟩
theorem Built.next {L : List Nd} {m p x : Nat} {d : List Nat} (h : Built L m d) (hm : 0 < m) (hl : m < L.length) (hp : par L m = p) (hlt : p < m) (hx : d[p]? = some x) (h256 : x + 1 ≤ 256) : Built L (m + 1) (d ++ [x + 1]) := by
 have hlen := h.len
 refine ⟨by simp [hlen], hl, fun _ => ⟨(h.root hm).1, ?_⟩, fun i h0 hi => ?_⟩
 ·rw [List.getElem?_append_left (by omega)]; exact (h.root hm).2
 ·by_cases him : i < m
  ·obtain ⟨p', x', e1, e2, e3, e4, e5⟩ := h.step i h0 him
   exact ⟨p', x', e1, e2, by rw [List.getElem?_append_left (by omega)]; exact e3, by rw [List.getElem?_append_left (by omega)]; exact e4, e5⟩
  ·have : i = m := by omega
   subst this
   exact ⟨p, x, hp, hlt, by rw [List.getElem?_append_left (by omega)]; exact hx, by rw [List.getElem?_append_right (by omega), hlen]; simp, h256⟩
theorem kids_succ (L : List Nd) (m e : Nat) : kids L (m + 1) e = kids L m e ++ if 0 < m ∧ par L m = e then [m] else [] := by
 unfold kids
 rw [List.range_succ, List.filter_append]
 congr 1
 by_cases h : 0 < m ∧ par L m = (e : Int)
 ·simp [h]
 ·rw [if_neg h]
  simp only [List.filter_cons, List.filter_nil]
  rw [if_neg (by simpa using h)]
theorem kids_self {L : List Nd} {m p : Nat} (hp : par L m = p) : kids L m p = sibs L m := by unfold kids sibs; rw [hp]
theorem kids_ge {L : List Nd} {N : Nat} {d : List Nat} (hB : Built L N d) {m : Nat} (hm : m ≤ N) {e : Nat} (he : m ≤ e + 1) : kids L m e = [] := by
 unfold kids
 rw [List.filter_eq_nil_iff]
 intro j hj
 simp only [List.mem_range] at hj
 simp only [Bool.and_eq_true, decide_eq_true_eq, not_and]
 intro h0 h1
 obtain ⟨p, x, e1, e2, _⟩ := hB.step j h0 (by omega)
 rw [e1] at h1
 omega
def rowE (L : List Nd) (d : List Nat) (i : Nat) (c : AV) (low : Nd → Nd) : List AV := encNd (low (ndAt L i)) ++ [c, I (d.getD i 0), I (place L i), I (before L i)]
@[simp] theorem len_rowE (L : List Nd) (d : List Nat) (i : Nat) (c : AV) (low : Nd → Nd) : (rowE L d i c low).length = 9 := rfl
def rowsE (L : List Nd) (d : List Nat) (ch : List AV) (low : Nd → Nd) : List (List AV) := ch.mapIdx fun i c => rowE L d i c low
theorem rowsE_len (L : List Nd) (d : List Nat) (ch : List AV) (low : Nd → Nd) : (rowsE L d ch low).length = ch.length := by simp [rowsE]
theorem rowsE_sz {L : List Nd} {d : List Nat} {ch : List AV} {low : Nd → Nd} : ∀ row ∈ rowsE L d ch low, row.length = 9 := by
 intro row h
 unfold rowsE at h
 obtain ⟨i, hi, rfl⟩ := List.mem_mapIdx.1 h
 rfl
theorem rowsE_get {L : List Nd} {d : List Nat} {ch : List AV} {low : Nd → Nd} {k : Nat} {c : AV} (h : ch[k]? = some c) : (rowsE L d ch low)[k]? = some (rowE L d k c low) := by
 unfold rowsE
 rw [List.getElem?_mapIdx, h]; rfl
theorem rowsE_set {L : List Nd} {d : List Nat} {ch : List AV} {low : Nd → Nd} {k : Nat} {c' : AV} : rowsE L d (ch.set k c') low = (rowsE L d ch low).set k (rowE L d k c' low) := by
 apply List.ext_getElem?
 intro i
 unfold rowsE
 rw [List.getElem?_mapIdx, List.getElem?_set, List.getElem?_set, List.getElem?_mapIdx]
 by_cases hi : k = i
 ·subst hi
  simp only [if_true, List.length_mapIdx]
  by_cases hk : k < ch.length
  ·simp [hk]
  ·simp [hk]
 ·simp [hi]
theorem rowsE_app {L : List Nd} {d : List Nat} {ch : List AV} {low : Nd → Nd} {c : AV} : rowsE L d (ch ++ [c]) low = rowsE L d ch low ++ [rowE L d ch.length c low] := by
 simp [rowsE, List.mapIdx_append]
theorem rowsE_drop {L : List Nd} {d : List Nat} {ch : List AV} {low : Nd → Nd} {k : Nat} {c : AV} (h : ch[k]? = some c) : ∃ r, (rowsE L d ch low).flatten.drop (k * 9) = rowE L d k c low ++ r := by
 have hk := (List.getElem?_eq_some_iff.1 h).1
 have e := rowsE_get (L := L) (d := d) (low := low) h
 have hk' : k < (rowsE L d ch low).length := by rw [rowsE_len]; exact hk
 refine ⟨((rowsE L d ch low).drop (k + 1)).flatten, ?_⟩
 rw [flat_drop rowsE_sz hk']
 congr 1
 rw [List.getElem?_eq_getElem hk'] at e
 exact Option.some.inj e
theorem rowsE_dropJ {L : List Nd} {d : List Nat} {ch : List AV} {low : Nd → Nd} {k : Nat} {c : AV} (h : ch[k]? = some c) (j : Nat) (hj : j ≤ 9) : ∃ r, (rowsE L d ch low).flatten.drop (k * 9 + j) = (rowE L d k c low).drop j ++ r := by
 obtain ⟨r, e⟩ := rowsE_drop (L := L) (d := d) (low := low) h
 refine ⟨r, ?_⟩
 rw [← List.drop_drop, e, List.drop_append_of_le_length (by simpa using hj)]
theorem rowsE_put {L : List Nd} {d : List Nat} {ch : List AV} {low : Nd → Nd} {k : Nat} {c c' : AV} (h : ch[k]? = some c) : overlay (rowsE L d ch low).flatten (k * 9 + 5) [c'] = (rowsE L d (ch.set k c') low).flatten := by
 have hk := (List.getElem?_eq_some_iff.1 h).1
 have hk' : k < (rowsE L d ch low).length := by rw [rowsE_len]; exact hk
 rw [flat_overlay (sz := 9) (by simp) rowsE_sz hk', rowsE_set]
 congr 2
 have e := rowsE_get (L := L) (d := d) (low := low) h
 rw [List.getElem?_eq_getElem hk'] at e
 rw [Option.some.inj e]
 rfl
end Go.Proofs.Ytaoegkmfgfefgaa.Ev
namespace Go.Proofs.Ytaoegkmfgfefgaa.Ev
set_option linter.unusedVariables false
set_option linter.unusedSimpArgs false
abbrev tl (s : ByteArray) : List UInt8 := s.data.toList
def mk (l : List UInt8) : ByteArray := ⟨l.toArray⟩
@[simp] theorem tl_mk (l : List UInt8) : tl (mk l) = l := by simp [tl, mk]
@[simp] theorem mk_tl (s : ByteArray) : mk (tl s) = s := by simp [tl, mk]
theorem mk_inj {a b : List UInt8} (h : mk a = mk b) : a = b := by rw [← tl_mk a, h, tl_mk]
theorem tl_inj {a b : ByteArray} (h : tl a = tl b) : a = b := by rw [← mk_tl a, h, mk_tl]
theorem tl_len (s : ByteArray) : (tl s).length = s.data.size := by simp [tl]
theorem mk_size (l : List UInt8) : (mk l).data.size = l.length := by simp [mk]
theorem ix_str {s : ByteArray} {k : Nat} {c : UInt8} (h : (tl s)[k]? = some c) : ixStr (Sx s) (I (k : Int)) = some (.lit (.int .u8 c.toNat)) := by
 simp only [ixStr, intA]
 simp [h]
theorem sl_str {s : ByteArray} {a b : Nat} (h1 : a ≤ b) (h2 : b ≤ s.data.size) : slStr (Sx s) (some (I (a : Int))) (some (I (b : Int))) = some (Sx (mk (((tl s).drop a).take (b - a)))) := by
 have h3 : b ≤ s.size := h2
 simp [slStr, intO, intA, boundsA, boundA, extractS, mk, tl, h1, h3]
theorem sl_str0 {s : ByteArray} {b : Nat} (h2 : b ≤ s.data.size) : slStr (Sx s) none (some (I (b : Int))) = some (Sx (mk ((tl s).take b))) := by
 have h3 : b ≤ s.size := h2
 simp [slStr, intO, intA, boundsA, boundA, extractS, mk, tl, h3]
theorem sl_strE {s : ByteArray} {a : Nat} (h1 : a ≤ s.data.size) : slStr (Sx s) (some (I (a : Int))) none = some (Sx (mk ((tl s).drop a))) := by
 have h3 : a ≤ s.size := h1
 simp [slStr, intO, intA, boundsA, boundA, extractS, mk, tl, h3]
 exact List.take_of_length_le (by simp)
theorem b_sadd {a b : ByteArray} (h : a.data.size + b.data.size ≤ 9223372036854775807) : binR .add (Sx a) (Sx b) = some (Sx (mk (tl a ++ tl b))) := by
 have e : a.data ++ b.data = (a.data.toList ++ b.data.toList).toArray := by
  apply Array.ext'
  simp
 have h3 : a.size + b.size ≤ 9223372036854775807 := h
 simp [binR, lit?, sbin, bleN, h3, mk, tl, e]
def preB (s p : List UInt8) : Bool := p.isPrefixOf s
def sufB (s p : List UInt8) : Bool := p.isSuffixOf s
theorem pre_take (s p : List UInt8) (h : p.length ≤ s.length) : decide (mk (s.take p.length) = mk p) = preB s p := by
 have := Go.Lib.hasPrefix_of_take s p
 simp only [h, decide_true, Bool.true_and, Go.Lib.hasPrefix] at this
 unfold preB
 rw [← this]
 by_cases e : s.take p.length = p
 ·simp [e]
 ·have : ¬ (mk (s.take p.length) = mk p) := fun h => e (mk_inj h)
  simp [e, this]
theorem suf_drop (s p : List UInt8) (h : p.length ≤ s.length) : decide (mk (s.drop (s.length - p.length)) = mk p) = sufB s p := by
 have := Go.Lib.hasSuffix_of_drop s p
 simp only [h, decide_true, Bool.true_and, Go.Lib.hasSuffix] at this
 unfold sufB
 rw [← this]
 by_cases e : s.drop (s.length - p.length) = p
 ·simp [e]
 ·have : ¬ (mk (s.drop (s.length - p.length)) = mk p) := fun h => e (mk_inj h)
  simp [e, this]
theorem pre_long {s p : List UInt8} (h : s.length < p.length) : preB s p = false := by
 have := Go.Lib.hasPrefix_of_take s p
 rw [show decide (p.length ≤ s.length) = false by simp; omega] at this
 simpa [preB, Go.Lib.hasPrefix] using this.symm
theorem suf_long {s p : List UInt8} (h : s.length < p.length) : sufB s p = false := by
 have := Go.Lib.hasSuffix_of_drop s p
 rw [show decide (p.length ≤ s.length) = false by simp; omega] at this
 simpa [sufB, Go.Lib.hasSuffix] using this.symm
def wht (c : UInt8) : Bool := c.toNat == 9 || (c.toNat == 10 || (c.toNat == 12 || (c.toNat == 13 || c.toNat == 32)))
def nw (c : UInt8) : Bool := !wht c
def wl (l : List UInt8) : Nat := (l.takeWhile nw).length
theorem wl_le : ∀ (l : List UInt8), wl l ≤ l.length
 | [] => Nat.le_refl _
 | c :: l => by
  unfold wl
  rw [List.takeWhile_cons]
  split
  ·have := wl_le l; unfold wl at this; simp; exact this
  ·simp
theorem wl_lt : ∀ {l : List UInt8} {k : Nat}, k < wl l → ∃ c, l[k]? = some c ∧ wht c = false
 | [], k, h => by simp [wl] at h
 | c :: l, k, h => by
  unfold wl at h
  rw [List.takeWhile_cons] at h
  split at h
  ·rename_i hc
   cases k with
   | zero => exact ⟨c, rfl, by simpa [nw] using hc⟩
   | succ k => exact wl_lt (l := l) (by unfold wl; simpa using h)
  ·simp at h
theorem wl_at : ∀ {l : List UInt8} {c : UInt8}, l[wl l]? = some c → wht c = true
 | [], c, h => by simp at h
 | d :: l, c, h => by
  unfold wl at h
  rw [List.takeWhile_cons] at h
  split at h
  ·exact wl_at (l := l) (by unfold wl; simpa using h)
  ·rename_i hc
   simp at h
   subst h
   simpa [nw] using hc
def wordsF : Nat → List UInt8 → List (List UInt8)
 | 0, _ => []
 | f + 1, l => if l = [] then [] else if wl l = 0 then wordsF f (l.drop 1) else l.take (wl l) :: wordsF f (l.drop (wl l + 1))
theorem wordsF_eq : ∀ (f g : Nat) (l : List UInt8), l.length < f → l.length < g → wordsF f l = wordsF g l
 | 0, g, l, h, _ => by omega
 | f + 1, 0, l, _, h => by omega
 | f + 1, g + 1, l, h1, h2 => by
  unfold wordsF
  by_cases hl : l = []
  ·rw [if_pos hl, if_pos hl]
  ·have hpos : 0 < l.length := List.length_pos_iff.2 hl
   rw [if_neg hl, if_neg hl, wordsF_eq f g (l.drop 1) (by simp; omega) (by simp; omega), wordsF_eq f g (l.drop (wl l + 1)) (by simp; omega) (by simp; omega)]
def wordsB (l : List UInt8) : List (List UInt8) := wordsF (l.length + 1) l
theorem wordsB_nil : wordsB [] = [] := rfl
theorem wordsB_eq {l : List UInt8} (hl : l ≠ []) : wordsB l = if wl l = 0 then wordsB (l.drop 1) else l.take (wl l) :: wordsB (l.drop (wl l + 1)) := by
 have hpos : 0 < l.length := List.length_pos_iff.2 hl
 show wordsF (l.length + 1) l = _
 unfold wordsF
 rw [if_neg hl]
 unfold wordsB
 rw [wordsF_eq l.length ((l.drop 1).length + 1) (l.drop 1) (by simp; omega) (by simp), wordsF_eq l.length ((l.drop (wl l + 1)).length + 1) (l.drop (wl l + 1)) (by simp; omega) (by simp)]
end Go.Proofs.Ytaoegkmfgfefgaa.Ev
namespace Go.Proofs.Ytaoegkmfgfefgaa.Ev
set_option maxRecDepth 100000
set_option maxHeartbeats 4000000
noncomputable def ti1 : TI := ⟨.func, 1, 8, [.nilFunc]⟩
theorem ti1_ok : tiOf Try.prog 1 = some ti1 := by kernel_rfl
noncomputable def ti2 : TI := ⟨.int .i64, 1, 8, [.int .i64 0]⟩
theorem ti2_ok : tiOf Try.prog 2 = some ti2 := by kernel_rfl
noncomputable def ti3 : TI := ⟨.int .i64, 1, 8, [.int .i64 0]⟩
theorem ti3_ok : tiOf Try.prog 3 = some ti3 := by kernel_rfl
noncomputable def ti4 : TI := ⟨.bool, 1, 1, [.bool false]⟩
theorem ti4_ok : tiOf Try.prog 4 = some ti4 := by kernel_rfl
noncomputable def ti5 : TI := ⟨.int .u8, 1, 1, [.int .u8 0]⟩
theorem ti5_ok : tiOf Try.prog 5 = some ti5 := by kernel_rfl
noncomputable def ti6 : TI := ⟨.int .u8, 1, 1, [.int .u8 0]⟩
theorem ti6_ok : tiOf Try.prog 6 = some ti6 := by kernel_rfl
noncomputable def ti7 : TI := ⟨.struct [(0, 2), (1, 3), (2, 4), (3, 6)], 4, 24, [.int .i64 0, .int .i64 0, .bool false, .int .u8 0]⟩
theorem ti7_ok : tiOf Try.prog 7 = some ti7 := by kernel_rfl
noncomputable def ti8 : TI := ⟨.struct [(0, 2), (1, 3), (2, 4), (3, 6)], 4, 24, [.int .i64 0, .int .i64 0, .bool false, .int .u8 0]⟩
theorem ti8_ok : tiOf Try.prog 8 = some ti8 := by kernel_rfl
noncomputable def ti9 : TI := ⟨.string, 1, 16, [.string ⟨#[]⟩]⟩
theorem ti9_ok : tiOf Try.prog 9 = some ti9 := by kernel_rfl
noncomputable def ti10 : TI := ⟨.string, 1, 16, [.string ⟨#[]⟩]⟩
theorem ti10_ok : tiOf Try.prog 10 = some ti10 := by kernel_rfl
noncomputable def ti11 : TI := ⟨.string, 1, 16, [.string ⟨#[]⟩]⟩
theorem ti11_ok : tiOf Try.prog 11 = some ti11 := by kernel_rfl
noncomputable def ti12 : TI := ⟨.int .u64, 1, 8, [.int .u64 0]⟩
theorem ti12_ok : tiOf Try.prog 12 = some ti12 := by kernel_rfl
noncomputable def ti13 : TI := ⟨.struct [(0, 9), (1, 12)], 2, 24, [.string ⟨#[]⟩, .int .u64 0]⟩
theorem ti13_ok : tiOf Try.prog 13 = some ti13 := by kernel_rfl
noncomputable def ti14 : TI := ⟨.struct [(0, 9), (1, 12)], 2, 24, [.string ⟨#[]⟩, .int .u64 0]⟩
theorem ti14_ok : tiOf Try.prog 14 = some ti14 := by kernel_rfl
noncomputable def ti15 : TI := ⟨.ptr 235, 1, 8, [.pointer none]⟩
theorem ti15_ok : tiOf Try.prog 15 = some ti15 := by kernel_rfl
noncomputable def ti16 : TI := ⟨.ptr 238, 1, 8, [.pointer none]⟩
theorem ti16_ok : tiOf Try.prog 16 = some ti16 := by kernel_rfl
noncomputable def ti17 : TI := ⟨.ptr 246, 1, 8, [.pointer none]⟩
theorem ti17_ok : tiOf Try.prog 17 = some ti17 := by kernel_rfl
noncomputable def ti18 : TI := ⟨.struct [(0, 17)], 1, 8, [.pointer none]⟩
theorem ti18_ok : tiOf Try.prog 18 = some ti18 := by kernel_rfl
noncomputable def ti19 : TI := ⟨.struct [(0, 17)], 1, 8, [.pointer none]⟩
theorem ti19_ok : tiOf Try.prog 19 = some ti19 := by kernel_rfl
noncomputable def ti21 : TI := ⟨.int .i32, 1, 4, [.int .i32 0]⟩
theorem ti21_ok : tiOf Try.prog 21 = some ti21 := by kernel_rfl
noncomputable def ti22 : TI := ⟨.slice 33, 1, 24, [.slice none 0 0]⟩
theorem ti22_ok : tiOf Try.prog 22 = some ti22 := by kernel_rfl
noncomputable def ti23 : TI := ⟨.slice 39, 1, 24, [.slice none 0 0]⟩
theorem ti23_ok : tiOf Try.prog 23 = some ti23 := by kernel_rfl
noncomputable def ti24 : TI := ⟨.func, 1, 8, [.nilFunc]⟩
theorem ti24_ok : tiOf Try.prog 24 = some ti24 := by kernel_rfl
noncomputable def ti25 : TI := ⟨.func, 1, 8, [.nilFunc]⟩
theorem ti25_ok : tiOf Try.prog 25 = some ti25 := by kernel_rfl
noncomputable def ti26 : TI := ⟨.func, 1, 8, [.nilFunc]⟩
theorem ti26_ok : tiOf Try.prog 26 = some ti26 := by kernel_rfl
noncomputable def ti27 : TI := ⟨.ptr 75, 1, 8, [.pointer none]⟩
theorem ti27_ok : tiOf Try.prog 27 = some ti27 := by kernel_rfl
noncomputable def ti29 : TI := ⟨.func, 1, 8, [.nilFunc]⟩
theorem ti29_ok : tiOf Try.prog 29 = some ti29 := by kernel_rfl
noncomputable def ti30 : TI := ⟨.slice 9, 1, 24, [.slice none 0 0]⟩
theorem ti30_ok : tiOf Try.prog 30 = some ti30 := by kernel_rfl
noncomputable def ti31 : TI := ⟨.slice 73, 1, 24, [.slice none 0 0]⟩
theorem ti31_ok : tiOf Try.prog 31 = some ti31 := by kernel_rfl
noncomputable def ti32 : TI := ⟨.struct [(0, 3), (1, 9), (2, 9), (3, 30), (4, 31)], 5, 88, [.int .i64 0, .string ⟨#[]⟩, .string ⟨#[]⟩, .slice none 0 0, .slice none 0 0]⟩
theorem ti32_ok : tiOf Try.prog 32 = some ti32 := by kernel_rfl
noncomputable def ti33 : TI := ⟨.struct [(0, 3), (1, 9), (2, 9), (3, 30), (4, 31)], 5, 88, [.int .i64 0, .string ⟨#[]⟩, .string ⟨#[]⟩, .slice none 0 0, .slice none 0 0]⟩
theorem ti33_ok : tiOf Try.prog 33 = some ti33 := by kernel_rfl
noncomputable def ti34 : TI := ⟨.func, 1, 8, [.nilFunc]⟩
theorem ti34_ok : tiOf Try.prog 34 = some ti34 := by kernel_rfl
noncomputable def ti35 : TI := ⟨.func, 1, 8, [.nilFunc]⟩
theorem ti35_ok : tiOf Try.prog 35 = some ti35 := by kernel_rfl
noncomputable def ti36 : TI := ⟨.func, 1, 8, [.nilFunc]⟩
theorem ti36_ok : tiOf Try.prog 36 = some ti36 := by kernel_rfl
noncomputable def ti37 : TI := ⟨.slice 84, 1, 24, [.slice none 0 0]⟩
theorem ti37_ok : tiOf Try.prog 37 = some ti37 := by kernel_rfl
noncomputable def ti38 : TI := ⟨.struct [(0, 37)], 1, 24, [.slice none 0 0]⟩
theorem ti38_ok : tiOf Try.prog 38 = some ti38 := by kernel_rfl
noncomputable def ti39 : TI := ⟨.struct [(0, 37)], 1, 24, [.slice none 0 0]⟩
theorem ti39_ok : tiOf Try.prog 39 = some ti39 := by kernel_rfl
noncomputable def ti40 : TI := ⟨.func, 1, 8, [.nilFunc]⟩
theorem ti40_ok : tiOf Try.prog 40 = some ti40 := by kernel_rfl
noncomputable def ti41 : TI := ⟨.func, 1, 8, [.nilFunc]⟩
theorem ti41_ok : tiOf Try.prog 41 = some ti41 := by kernel_rfl
noncomputable def ti42 : TI := ⟨.slice 89, 1, 24, [.slice none 0 0]⟩
theorem ti42_ok : tiOf Try.prog 42 = some ti42 := by kernel_rfl
noncomputable def ti43 : TI := ⟨.func, 1, 8, [.nilFunc]⟩
theorem ti43_ok : tiOf Try.prog 43 = some ti43 := by kernel_rfl
noncomputable def ti44 : TI := ⟨.func, 1, 8, [.nilFunc]⟩
theorem ti44_ok : tiOf Try.prog 44 = some ti44 := by kernel_rfl
noncomputable def ti45 : TI := ⟨.func, 1, 8, [.nilFunc]⟩
theorem ti45_ok : tiOf Try.prog 45 = some ti45 := by kernel_rfl
noncomputable def ti46 : TI := ⟨.func, 1, 8, [.nilFunc]⟩
theorem ti46_ok : tiOf Try.prog 46 = some ti46 := by kernel_rfl
noncomputable def ti47 : TI := ⟨.ptr 96, 1, 8, [.pointer none]⟩
theorem ti47_ok : tiOf Try.prog 47 = some ti47 := by kernel_rfl
noncomputable def ti48 : TI := ⟨.func, 1, 8, [.nilFunc]⟩
theorem ti48_ok : tiOf Try.prog 48 = some ti48 := by kernel_rfl
noncomputable def ti49 : TI := ⟨.func, 1, 8, [.nilFunc]⟩
theorem ti49_ok : tiOf Try.prog 49 = some ti49 := by kernel_rfl
noncomputable def ti50 : TI := ⟨.slice 3, 1, 24, [.slice none 0 0]⟩
theorem ti50_ok : tiOf Try.prog 50 = some ti50 := by kernel_rfl
noncomputable def ti51 : TI := ⟨.func, 1, 8, [.nilFunc]⟩
theorem ti51_ok : tiOf Try.prog 51 = some ti51 := by kernel_rfl
noncomputable def ti52 : TI := ⟨.func, 1, 8, [.nilFunc]⟩
theorem ti52_ok : tiOf Try.prog 52 = some ti52 := by kernel_rfl
noncomputable def ti53 : TI := ⟨.func, 1, 8, [.nilFunc]⟩
theorem ti53_ok : tiOf Try.prog 53 = some ti53 := by kernel_rfl
noncomputable def ti54 : TI := ⟨.func, 1, 8, [.nilFunc]⟩
theorem ti54_ok : tiOf Try.prog 54 = some ti54 := by kernel_rfl
noncomputable def ti55 : TI := ⟨.func, 1, 8, [.nilFunc]⟩
theorem ti55_ok : tiOf Try.prog 55 = some ti55 := by kernel_rfl
noncomputable def ti56 : TI := ⟨.func, 1, 8, [.nilFunc]⟩
theorem ti56_ok : tiOf Try.prog 56 = some ti56 := by kernel_rfl
noncomputable def ti57 : TI := ⟨.func, 1, 8, [.nilFunc]⟩
theorem ti57_ok : tiOf Try.prog 57 = some ti57 := by kernel_rfl
noncomputable def ti58 : TI := ⟨.ptr 141, 1, 8, [.pointer none]⟩
theorem ti58_ok : tiOf Try.prog 58 = some ti58 := by kernel_rfl
noncomputable def ti60 : TI := ⟨.func, 1, 8, [.nilFunc]⟩
theorem ti60_ok : tiOf Try.prog 60 = some ti60 := by kernel_rfl
noncomputable def ti61 : TI := ⟨.func, 1, 8, [.nilFunc]⟩
theorem ti61_ok : tiOf Try.prog 61 = some ti61 := by kernel_rfl
noncomputable def ti62 : TI := ⟨.func, 1, 8, [.nilFunc]⟩
theorem ti62_ok : tiOf Try.prog 62 = some ti62 := by kernel_rfl
noncomputable def ti63 : TI := ⟨.func, 1, 8, [.nilFunc]⟩
theorem ti63_ok : tiOf Try.prog 63 = some ti63 := by kernel_rfl
noncomputable def ti64 : TI := ⟨.struct [(0, 3), (1, 3)], 2, 16, [.int .i64 0, .int .i64 0]⟩
theorem ti64_ok : tiOf Try.prog 64 = some ti64 := by kernel_rfl
noncomputable def ti65 : TI := ⟨.struct [(0, 3), (1, 3)], 2, 16, [.int .i64 0, .int .i64 0]⟩
theorem ti65_ok : tiOf Try.prog 65 = some ti65 := by kernel_rfl
noncomputable def ti66 : TI := ⟨.array 8 65, 16, 128, [.int .i64 0, .int .i64 0, .int .i64 0, .int .i64 0, .int .i64 0, .int .i64 0, .int .i64 0, .int .i64 0, .int .i64 0, .int .i64 0, .int .i64 0, .int .i64 0, .int .i64 0, .int .i64 0, .int .i64 0, .int .i64 0]⟩
theorem ti66_ok : tiOf Try.prog 66 = some ti66 := by kernel_rfl
noncomputable def ti67 : TI := ⟨.func, 1, 8, [.nilFunc]⟩
theorem ti67_ok : tiOf Try.prog 67 = some ti67 := by kernel_rfl
noncomputable def ti68 : TI := ⟨.func, 1, 8, [.nilFunc]⟩
theorem ti68_ok : tiOf Try.prog 68 = some ti68 := by kernel_rfl
noncomputable def ti69 : TI := ⟨.func, 1, 8, [.nilFunc]⟩
theorem ti69_ok : tiOf Try.prog 69 = some ti69 := by kernel_rfl
noncomputable def ti70 : TI := ⟨.func, 1, 8, [.nilFunc]⟩
theorem ti70_ok : tiOf Try.prog 70 = some ti70 := by kernel_rfl
noncomputable def ti71 : TI := ⟨.func, 1, 8, [.nilFunc]⟩
theorem ti71_ok : tiOf Try.prog 71 = some ti71 := by kernel_rfl
noncomputable def ti72 : TI := ⟨.struct [(0, 9), (1, 9)], 2, 32, [.string ⟨#[]⟩, .string ⟨#[]⟩]⟩
theorem ti72_ok : tiOf Try.prog 72 = some ti72 := by kernel_rfl
noncomputable def ti73 : TI := ⟨.struct [(0, 9), (1, 9)], 2, 32, [.string ⟨#[]⟩, .string ⟨#[]⟩]⟩
theorem ti73_ok : tiOf Try.prog 73 = some ti73 := by kernel_rfl
noncomputable def ti74 : TI := ⟨.struct [(0, 22), (1, 50)], 2, 48, [.slice none 0 0, .slice none 0 0]⟩
theorem ti74_ok : tiOf Try.prog 74 = some ti74 := by kernel_rfl
noncomputable def ti75 : TI := ⟨.struct [(0, 22), (1, 50)], 2, 48, [.slice none 0 0, .slice none 0 0]⟩
theorem ti75_ok : tiOf Try.prog 75 = some ti75 := by kernel_rfl
noncomputable def ti76 : TI := ⟨.func, 1, 8, [.nilFunc]⟩
theorem ti76_ok : tiOf Try.prog 76 = some ti76 := by kernel_rfl
noncomputable def ti77 : TI := ⟨.func, 1, 8, [.nilFunc]⟩
theorem ti77_ok : tiOf Try.prog 77 = some ti77 := by kernel_rfl
noncomputable def ti78 : TI := ⟨.func, 1, 8, [.nilFunc]⟩
theorem ti78_ok : tiOf Try.prog 78 = some ti78 := by kernel_rfl
noncomputable def ti79 : TI := ⟨.slice 131, 1, 24, [.slice none 0 0]⟩
theorem ti79_ok : tiOf Try.prog 79 = some ti79 := by kernel_rfl
noncomputable def ti80 : TI := ⟨.slice 126, 1, 24, [.slice none 0 0]⟩
theorem ti80_ok : tiOf Try.prog 80 = some ti80 := by kernel_rfl
noncomputable def ti81 : TI := ⟨.struct [(0, 9), (1, 30), (2, 30), (3, 79), (4, 80)], 5, 112, [.string ⟨#[]⟩, .slice none 0 0, .slice none 0 0, .slice none 0 0, .slice none 0 0]⟩
theorem ti81_ok : tiOf Try.prog 81 = some ti81 := by kernel_rfl
noncomputable def ti82 : TI := ⟨.struct [(0, 9), (1, 30), (2, 30), (3, 79), (4, 80)], 5, 112, [.string ⟨#[]⟩, .slice none 0 0, .slice none 0 0, .slice none 0 0, .slice none 0 0]⟩
theorem ti82_ok : tiOf Try.prog 82 = some ti82 := by kernel_rfl
noncomputable def ti83 : TI := ⟨.struct [(0, 3), (1, 82)], 6, 120, [.int .i64 0, .string ⟨#[]⟩, .slice none 0 0, .slice none 0 0, .slice none 0 0, .slice none 0 0]⟩
theorem ti83_ok : tiOf Try.prog 83 = some ti83 := by kernel_rfl
noncomputable def ti84 : TI := ⟨.struct [(0, 3), (1, 82)], 6, 120, [.int .i64 0, .string ⟨#[]⟩, .slice none 0 0, .slice none 0 0, .slice none 0 0, .slice none 0 0]⟩
theorem ti84_ok : tiOf Try.prog 84 = some ti84 := by kernel_rfl
noncomputable def ti85 : TI := ⟨.func, 1, 8, [.nilFunc]⟩
theorem ti85_ok : tiOf Try.prog 85 = some ti85 := by kernel_rfl
noncomputable def ti86 : TI := ⟨.func, 1, 8, [.nilFunc]⟩
theorem ti86_ok : tiOf Try.prog 86 = some ti86 := by kernel_rfl
noncomputable def ti87 : TI := ⟨.slice 118, 1, 24, [.slice none 0 0]⟩
theorem ti87_ok : tiOf Try.prog 87 = some ti87 := by kernel_rfl
noncomputable def ti88 : TI := ⟨.struct [(0, 23), (1, 87)], 2, 48, [.slice none 0 0, .slice none 0 0]⟩
theorem ti88_ok : tiOf Try.prog 88 = some ti88 := by kernel_rfl
noncomputable def ti89 : TI := ⟨.struct [(0, 23), (1, 87)], 2, 48, [.slice none 0 0, .slice none 0 0]⟩
theorem ti89_ok : tiOf Try.prog 89 = some ti89 := by kernel_rfl
noncomputable def ti90 : TI := ⟨.func, 1, 8, [.nilFunc]⟩
theorem ti90_ok : tiOf Try.prog 90 = some ti90 := by kernel_rfl
noncomputable def ti91 : TI := ⟨.func, 1, 8, [.nilFunc]⟩
theorem ti91_ok : tiOf Try.prog 91 = some ti91 := by kernel_rfl
noncomputable def ti92 : TI := ⟨.map 99 50, 1, 8, [.map none]⟩
theorem ti92_ok : tiOf Try.prog 92 = some ti92 := by kernel_rfl
noncomputable def ti93 : TI := ⟨.struct [(0, 92)], 1, 8, [.map none]⟩
theorem ti93_ok : tiOf Try.prog 93 = some ti93 := by kernel_rfl
noncomputable def ti94 : TI := ⟨.struct [(0, 92)], 1, 8, [.map none]⟩
theorem ti94_ok : tiOf Try.prog 94 = some ti94 := by kernel_rfl
noncomputable def ti95 : TI := ⟨.struct [(0, 94), (1, 3)], 2, 16, [.map none, .int .i64 0]⟩
theorem ti95_ok : tiOf Try.prog 95 = some ti95 := by kernel_rfl
noncomputable def ti96 : TI := ⟨.struct [(0, 94), (1, 3)], 2, 16, [.map none, .int .i64 0]⟩
theorem ti96_ok : tiOf Try.prog 96 = some ti96 := by kernel_rfl
noncomputable def ti97 : TI := ⟨.func, 1, 8, [.nilFunc]⟩
theorem ti97_ok : tiOf Try.prog 97 = some ti97 := by kernel_rfl
noncomputable def ti98 : TI := ⟨.struct [(0, 3), (1, 9)], 2, 24, [.int .i64 0, .string ⟨#[]⟩]⟩
theorem ti98_ok : tiOf Try.prog 98 = some ti98 := by kernel_rfl
noncomputable def ti99 : TI := ⟨.struct [(0, 3), (1, 9)], 2, 24, [.int .i64 0, .string ⟨#[]⟩]⟩
theorem ti99_ok : tiOf Try.prog 99 = some ti99 := by kernel_rfl
noncomputable def ti100 : TI := ⟨.func, 1, 8, [.nilFunc]⟩
theorem ti100_ok : tiOf Try.prog 100 = some ti100 := by kernel_rfl
noncomputable def ti101 : TI := ⟨.func, 1, 8, [.nilFunc]⟩
theorem ti101_ok : tiOf Try.prog 101 = some ti101 := by kernel_rfl
noncomputable def ti102 : TI := ⟨.func, 1, 8, [.nilFunc]⟩
theorem ti102_ok : tiOf Try.prog 102 = some ti102 := by kernel_rfl
noncomputable def ti103 : TI := ⟨.func, 1, 8, [.nilFunc]⟩
theorem ti103_ok : tiOf Try.prog 103 = some ti103 := by kernel_rfl
noncomputable def ti104 : TI := ⟨.func, 1, 8, [.nilFunc]⟩
theorem ti104_ok : tiOf Try.prog 104 = some ti104 := by kernel_rfl
noncomputable def ti105 : TI := ⟨.int .i64, 1, 8, [.int .i64 0]⟩
theorem ti105_ok : tiOf Try.prog 105 = some ti105 := by kernel_rfl
noncomputable def ti107 : TI := ⟨.func, 1, 8, [.nilFunc]⟩
theorem ti107_ok : tiOf Try.prog 107 = some ti107 := by kernel_rfl
noncomputable def ti108 : TI := ⟨.func, 1, 8, [.nilFunc]⟩
theorem ti108_ok : tiOf Try.prog 108 = some ti108 := by kernel_rfl
noncomputable def ti109 : TI := ⟨.func, 1, 8, [.nilFunc]⟩
theorem ti109_ok : tiOf Try.prog 109 = some ti109 := by kernel_rfl
noncomputable def ti110 : TI := ⟨.slice 4, 1, 24, [.slice none 0 0]⟩
theorem ti110_ok : tiOf Try.prog 110 = some ti110 := by kernel_rfl
noncomputable def ti111 : TI := ⟨.func, 1, 8, [.nilFunc]⟩
theorem ti111_ok : tiOf Try.prog 111 = some ti111 := by kernel_rfl
noncomputable def ti112 : TI := ⟨.func, 1, 8, [.nilFunc]⟩
theorem ti112_ok : tiOf Try.prog 112 = some ti112 := by kernel_rfl
noncomputable def ti113 : TI := ⟨.array 8 3, 8, 64, [.int .i64 0, .int .i64 0, .int .i64 0, .int .i64 0, .int .i64 0, .int .i64 0, .int .i64 0, .int .i64 0]⟩
theorem ti113_ok : tiOf Try.prog 113 = some ti113 := by kernel_rfl
noncomputable def ti114 : TI := ⟨.array 8 4, 8, 8, [.bool false, .bool false, .bool false, .bool false, .bool false, .bool false, .bool false, .bool false]⟩
theorem ti114_ok : tiOf Try.prog 114 = some ti114 := by kernel_rfl
noncomputable def ti116 : TI := ⟨.func, 1, 8, [.nilFunc]⟩
theorem ti116_ok : tiOf Try.prog 116 = some ti116 := by kernel_rfl
noncomputable def ti117 : TI := ⟨.struct [(0, 3), (1, 65), (3, 4)], 4, 32, [.int .i64 0, .int .i64 0, .int .i64 0, .bool false]⟩
theorem ti117_ok : tiOf Try.prog 117 = some ti117 := by kernel_rfl
noncomputable def ti118 : TI := ⟨.struct [(0, 3), (1, 65), (3, 4)], 4, 32, [.int .i64 0, .int .i64 0, .int .i64 0, .bool false]⟩
theorem ti118_ok : tiOf Try.prog 118 = some ti118 := by kernel_rfl
noncomputable def ti120 : TI := ⟨.func, 1, 8, [.nilFunc]⟩
theorem ti120_ok : tiOf Try.prog 120 = some ti120 := by kernel_rfl
noncomputable def ti121 : TI := ⟨.slice 156, 1, 24, [.slice none 0 0]⟩
theorem ti121_ok : tiOf Try.prog 121 = some ti121 := by kernel_rfl
noncomputable def ti122 : TI := ⟨.func, 1, 8, [.nilFunc]⟩
theorem ti122_ok : tiOf Try.prog 122 = some ti122 := by kernel_rfl
noncomputable def ti123 : TI := ⟨.func, 1, 8, [.nilFunc]⟩
theorem ti123_ok : tiOf Try.prog 123 = some ti123 := by kernel_rfl
noncomputable def ti124 : TI := ⟨.slice 5, 1, 24, [.slice none 0 0]⟩
theorem ti124_ok : tiOf Try.prog 124 = some ti124 := by kernel_rfl
noncomputable def ti125 : TI := ⟨.struct [(0, 3), (1, 3), (2, 3), (3, 23)], 4, 48, [.int .i64 0, .int .i64 0, .int .i64 0, .slice none 0 0]⟩
theorem ti125_ok : tiOf Try.prog 125 = some ti125 := by kernel_rfl
noncomputable def ti126 : TI := ⟨.struct [(0, 3), (1, 3), (2, 3), (3, 23)], 4, 48, [.int .i64 0, .int .i64 0, .int .i64 0, .slice none 0 0]⟩
theorem ti126_ok : tiOf Try.prog 126 = some ti126 := by kernel_rfl
noncomputable def ti127 : TI := ⟨.func, 1, 8, [.nilFunc]⟩
theorem ti127_ok : tiOf Try.prog 127 = some ti127 := by kernel_rfl
noncomputable def ti128 : TI := ⟨.func, 1, 8, [.nilFunc]⟩
theorem ti128_ok : tiOf Try.prog 128 = some ti128 := by kernel_rfl
noncomputable def ti129 : TI := ⟨.func, 1, 8, [.nilFunc]⟩
theorem ti129_ok : tiOf Try.prog 129 = some ti129 := by kernel_rfl
noncomputable def ti130 : TI := ⟨.struct [(0, 9), (1, 3), (2, 9)], 3, 40, [.string ⟨#[]⟩, .int .i64 0, .string ⟨#[]⟩]⟩
theorem ti130_ok : tiOf Try.prog 130 = some ti130 := by kernel_rfl
noncomputable def ti131 : TI := ⟨.struct [(0, 9), (1, 3), (2, 9)], 3, 40, [.string ⟨#[]⟩, .int .i64 0, .string ⟨#[]⟩]⟩
theorem ti131_ok : tiOf Try.prog 131 = some ti131 := by kernel_rfl
noncomputable def ti132 : TI := ⟨.ptr 94, 1, 8, [.pointer none]⟩
theorem ti132_ok : tiOf Try.prog 132 = some ti132 := by kernel_rfl
noncomputable def ti133 : TI := ⟨.slice 50, 1, 24, [.slice none 0 0]⟩
theorem ti133_ok : tiOf Try.prog 133 = some ti133 := by kernel_rfl
noncomputable def ti134 : TI := ⟨.func, 1, 8, [.nilFunc]⟩
theorem ti134_ok : tiOf Try.prog 134 = some ti134 := by kernel_rfl
noncomputable def ti135 : TI := ⟨.func, 1, 8, [.nilFunc]⟩
theorem ti135_ok : tiOf Try.prog 135 = some ti135 := by kernel_rfl
noncomputable def ti136 : TI := ⟨.func, 1, 8, [.nilFunc]⟩
theorem ti136_ok : tiOf Try.prog 136 = some ti136 := by kernel_rfl
noncomputable def ti137 : TI := ⟨.int .u64, 1, 8, [.int .u64 0]⟩
theorem ti137_ok : tiOf Try.prog 137 = some ti137 := by kernel_rfl
noncomputable def ti138 : TI := ⟨.func, 1, 8, [.nilFunc]⟩
theorem ti138_ok : tiOf Try.prog 138 = some ti138 := by kernel_rfl
noncomputable def ti139 : TI := ⟨.slice 144, 1, 24, [.slice none 0 0]⟩
theorem ti139_ok : tiOf Try.prog 139 = some ti139 := by kernel_rfl
noncomputable def ti140 : TI := ⟨.struct [(0, 139)], 1, 24, [.slice none 0 0]⟩
theorem ti140_ok : tiOf Try.prog 140 = some ti140 := by kernel_rfl
noncomputable def ti141 : TI := ⟨.struct [(0, 139)], 1, 24, [.slice none 0 0]⟩
theorem ti141_ok : tiOf Try.prog 141 = some ti141 := by kernel_rfl
noncomputable def ti142 : TI := ⟨.func, 1, 8, [.nilFunc]⟩
theorem ti142_ok : tiOf Try.prog 142 = some ti142 := by kernel_rfl
noncomputable def ti143 : TI := ⟨.struct [(0, 33), (5, 50), (6, 3), (7, 3), (8, 3)], 9, 136, [.int .i64 0, .string ⟨#[]⟩, .string ⟨#[]⟩, .slice none 0 0, .slice none 0 0, .slice none 0 0, .int .i64 0, .int .i64 0, .int .i64 0]⟩
theorem ti143_ok : tiOf Try.prog 143 = some ti143 := by kernel_rfl
noncomputable def ti144 : TI := ⟨.struct [(0, 33), (5, 50), (6, 3), (7, 3), (8, 3)], 9, 136, [.int .i64 0, .string ⟨#[]⟩, .string ⟨#[]⟩, .slice none 0 0, .slice none 0 0, .slice none 0 0, .int .i64 0, .int .i64 0, .int .i64 0]⟩
theorem ti144_ok : tiOf Try.prog 144 = some ti144 := by kernel_rfl
noncomputable def ti145 : TI := ⟨.func, 1, 8, [.nilFunc]⟩
theorem ti145_ok : tiOf Try.prog 145 = some ti145 := by kernel_rfl
noncomputable def ti146 : TI := ⟨.func, 1, 8, [.nilFunc]⟩
theorem ti146_ok : tiOf Try.prog 146 = some ti146 := by kernel_rfl
noncomputable def ti147 : TI := ⟨.func, 1, 8, [.nilFunc]⟩
theorem ti147_ok : tiOf Try.prog 147 = some ti147 := by kernel_rfl
noncomputable def ti148 : TI := ⟨.ptr 150, 1, 8, [.pointer none]⟩
theorem ti148_ok : tiOf Try.prog 148 = some ti148 := by kernel_rfl
noncomputable def ti149 : TI := ⟨.struct [(0, 121), (1, 3), (2, 4), (3, 3)], 4, 48, [.slice none 0 0, .int .i64 0, .bool false, .int .i64 0]⟩
theorem ti149_ok : tiOf Try.prog 149 = some ti149 := by kernel_rfl
noncomputable def ti150 : TI := ⟨.struct [(0, 121), (1, 3), (2, 4), (3, 3)], 4, 48, [.slice none 0 0, .int .i64 0, .bool false, .int .i64 0]⟩
theorem ti150_ok : tiOf Try.prog 150 = some ti150 := by kernel_rfl
noncomputable def ti151 : TI := ⟨.func, 1, 8, [.nilFunc]⟩
theorem ti151_ok : tiOf Try.prog 151 = some ti151 := by kernel_rfl
noncomputable def ti152 : TI := ⟨.ptr 154, 1, 8, [.pointer none]⟩
theorem ti152_ok : tiOf Try.prog 152 = some ti152 := by kernel_rfl
noncomputable def ti153 : TI := ⟨.struct [(0, 50), (1, 3)], 2, 32, [.slice none 0 0, .int .i64 0]⟩
theorem ti153_ok : tiOf Try.prog 153 = some ti153 := by kernel_rfl
noncomputable def ti154 : TI := ⟨.struct [(0, 50), (1, 3)], 2, 32, [.slice none 0 0, .int .i64 0]⟩
theorem ti154_ok : tiOf Try.prog 154 = some ti154 := by kernel_rfl
noncomputable def ti155 : TI := ⟨.struct [(0, 3), (1, 9), (2, 3), (3, 4), (4, 3)], 5, 48, [.int .i64 0, .string ⟨#[]⟩, .int .i64 0, .bool false, .int .i64 0]⟩
theorem ti155_ok : tiOf Try.prog 155 = some ti155 := by kernel_rfl
noncomputable def ti156 : TI := ⟨.struct [(0, 3), (1, 9), (2, 3), (3, 4), (4, 3)], 5, 48, [.int .i64 0, .string ⟨#[]⟩, .int .i64 0, .bool false, .int .i64 0]⟩
theorem ti156_ok : tiOf Try.prog 156 = some ti156 := by kernel_rfl
noncomputable def ti157 : TI := ⟨.func, 1, 8, [.nilFunc]⟩
theorem ti157_ok : tiOf Try.prog 157 = some ti157 := by kernel_rfl
noncomputable def ti158 : TI := ⟨.func, 1, 8, [.nilFunc]⟩
theorem ti158_ok : tiOf Try.prog 158 = some ti158 := by kernel_rfl
noncomputable def ti159 : TI := ⟨.func, 1, 8, [.nilFunc]⟩
theorem ti159_ok : tiOf Try.prog 159 = some ti159 := by kernel_rfl
noncomputable def ti160 : TI := ⟨.func, 1, 8, [.nilFunc]⟩
theorem ti160_ok : tiOf Try.prog 160 = some ti160 := by kernel_rfl
noncomputable def ti161 : TI := ⟨.int .i64, 1, 8, [.int .i64 0]⟩
theorem ti161_ok : tiOf Try.prog 161 = some ti161 := by kernel_rfl
noncomputable def ti163 : TI := ⟨.func, 1, 8, [.nilFunc]⟩
theorem ti163_ok : tiOf Try.prog 163 = some ti163 := by kernel_rfl
noncomputable def ti164 : TI := ⟨.func, 1, 8, [.nilFunc]⟩
theorem ti164_ok : tiOf Try.prog 164 = some ti164 := by kernel_rfl
noncomputable def ti165 : TI := ⟨.func, 1, 8, [.nilFunc]⟩
theorem ti165_ok : tiOf Try.prog 165 = some ti165 := by kernel_rfl
noncomputable def ti166 : TI := ⟨.func, 1, 8, [.nilFunc]⟩
theorem ti166_ok : tiOf Try.prog 166 = some ti166 := by kernel_rfl
noncomputable def ti167 : TI := ⟨.func, 1, 8, [.nilFunc]⟩
theorem ti167_ok : tiOf Try.prog 167 = some ti167 := by kernel_rfl
noncomputable def ti168 : TI := ⟨.func, 1, 8, [.nilFunc]⟩
theorem ti168_ok : tiOf Try.prog 168 = some ti168 := by kernel_rfl
noncomputable def ti169 : TI := ⟨.int .u32, 1, 4, [.int .u32 0]⟩
theorem ti169_ok : tiOf Try.prog 169 = some ti169 := by kernel_rfl
noncomputable def ti170 : TI := ⟨.func, 1, 8, [.nilFunc]⟩
theorem ti170_ok : tiOf Try.prog 170 = some ti170 := by kernel_rfl
noncomputable def ti171 : TI := ⟨.int .u64, 1, 8, [.int .u64 0]⟩
theorem ti171_ok : tiOf Try.prog 171 = some ti171 := by kernel_rfl
noncomputable def ti172 : TI := ⟨.ptr 144, 1, 8, [.pointer none]⟩
theorem ti172_ok : tiOf Try.prog 172 = some ti172 := by kernel_rfl
noncomputable def ti173 : TI := ⟨.func, 1, 8, [.nilFunc]⟩
theorem ti173_ok : tiOf Try.prog 173 = some ti173 := by kernel_rfl
noncomputable def ti174 : TI := ⟨.func, 1, 8, [.nilFunc]⟩
theorem ti174_ok : tiOf Try.prog 174 = some ti174 := by kernel_rfl
noncomputable def ti175 : TI := ⟨.func, 1, 8, [.nilFunc]⟩
theorem ti175_ok : tiOf Try.prog 175 = some ti175 := by kernel_rfl
noncomputable def ti176 : TI := ⟨.func, 1, 8, [.nilFunc]⟩
theorem ti176_ok : tiOf Try.prog 176 = some ti176 := by kernel_rfl
noncomputable def ti177 : TI := ⟨.func, 1, 8, [.nilFunc]⟩
theorem ti177_ok : tiOf Try.prog 177 = some ti177 := by kernel_rfl
noncomputable def ti178 : TI := ⟨.func, 1, 8, [.nilFunc]⟩
theorem ti178_ok : tiOf Try.prog 178 = some ti178 := by kernel_rfl
noncomputable def ti179 : TI := ⟨.func, 1, 8, [.nilFunc]⟩
theorem ti179_ok : tiOf Try.prog 179 = some ti179 := by kernel_rfl
noncomputable def ti180 : TI := ⟨.func, 1, 8, [.nilFunc]⟩
theorem ti180_ok : tiOf Try.prog 180 = some ti180 := by kernel_rfl
noncomputable def ti182 : TI := ⟨.func, 1, 8, [.nilFunc]⟩
theorem ti182_ok : tiOf Try.prog 182 = some ti182 := by kernel_rfl
noncomputable def ti183 : TI := ⟨.func, 1, 8, [.nilFunc]⟩
theorem ti183_ok : tiOf Try.prog 183 = some ti183 := by kernel_rfl
noncomputable def ti184 : TI := ⟨.func, 1, 8, [.nilFunc]⟩
theorem ti184_ok : tiOf Try.prog 184 = some ti184 := by kernel_rfl
noncomputable def ti185 : TI := ⟨.int .u64, 1, 8, [.int .u64 0]⟩
theorem ti185_ok : tiOf Try.prog 185 = some ti185 := by kernel_rfl
noncomputable def ti186 : TI := ⟨.func, 1, 8, [.nilFunc]⟩
theorem ti186_ok : tiOf Try.prog 186 = some ti186 := by kernel_rfl
noncomputable def ti187 : TI := ⟨.func, 1, 8, [.nilFunc]⟩
theorem ti187_ok : tiOf Try.prog 187 = some ti187 := by kernel_rfl
noncomputable def ti188 : TI := ⟨.func, 1, 8, [.nilFunc]⟩
theorem ti188_ok : tiOf Try.prog 188 = some ti188 := by kernel_rfl
noncomputable def ti189 : TI := ⟨.ptr 3, 1, 8, [.pointer none]⟩
theorem ti189_ok : tiOf Try.prog 189 = some ti189 := by kernel_rfl
noncomputable def ti190 : TI := ⟨.func, 1, 8, [.nilFunc]⟩
theorem ti190_ok : tiOf Try.prog 190 = some ti190 := by kernel_rfl
noncomputable def ti191 : TI := ⟨.func, 1, 8, [.nilFunc]⟩
theorem ti191_ok : tiOf Try.prog 191 = some ti191 := by kernel_rfl
noncomputable def ti192 : TI := ⟨.ptr 209, 1, 8, [.pointer none]⟩
theorem ti192_ok : tiOf Try.prog 192 = some ti192 := by kernel_rfl
noncomputable def ti193 : TI := ⟨.func, 1, 8, [.nilFunc]⟩
theorem ti193_ok : tiOf Try.prog 193 = some ti193 := by kernel_rfl
noncomputable def ti194 : TI := ⟨.func, 1, 8, [.nilFunc]⟩
theorem ti194_ok : tiOf Try.prog 194 = some ti194 := by kernel_rfl
noncomputable def ti195 : TI := ⟨.func, 1, 8, [.nilFunc]⟩
theorem ti195_ok : tiOf Try.prog 195 = some ti195 := by kernel_rfl
noncomputable def ti196 : TI := ⟨.func, 1, 8, [.nilFunc]⟩
theorem ti196_ok : tiOf Try.prog 196 = some ti196 := by kernel_rfl
noncomputable def ti197 : TI := ⟨.array 3 3, 3, 24, [.int .i64 0, .int .i64 0, .int .i64 0]⟩
theorem ti197_ok : tiOf Try.prog 197 = some ti197 := by kernel_rfl
noncomputable def ti198 : TI := ⟨.func, 1, 8, [.nilFunc]⟩
theorem ti198_ok : tiOf Try.prog 198 = some ti198 := by kernel_rfl
noncomputable def ti199 : TI := ⟨.func, 1, 8, [.nilFunc]⟩
theorem ti199_ok : tiOf Try.prog 199 = some ti199 := by kernel_rfl
noncomputable def ti200 : TI := ⟨.func, 1, 8, [.nilFunc]⟩
theorem ti200_ok : tiOf Try.prog 200 = some ti200 := by kernel_rfl
noncomputable def ti201 : TI := ⟨.func, 1, 8, [.nilFunc]⟩
theorem ti201_ok : tiOf Try.prog 201 = some ti201 := by kernel_rfl
noncomputable def ti202 : TI := ⟨.func, 1, 8, [.nilFunc]⟩
theorem ti202_ok : tiOf Try.prog 202 = some ti202 := by kernel_rfl
noncomputable def ti203 : TI := ⟨.func, 1, 8, [.nilFunc]⟩
theorem ti203_ok : tiOf Try.prog 203 = some ti203 := by kernel_rfl
noncomputable def ti204 : TI := ⟨.ptr 185, 1, 8, [.pointer none]⟩
theorem ti204_ok : tiOf Try.prog 204 = some ti204 := by kernel_rfl
noncomputable def ti205 : TI := ⟨.func, 1, 8, [.nilFunc]⟩
theorem ti205_ok : tiOf Try.prog 205 = some ti205 := by kernel_rfl
noncomputable def ti206 : TI := ⟨.map 218 4, 1, 8, [.map none]⟩
theorem ti206_ok : tiOf Try.prog 206 = some ti206 := by kernel_rfl
noncomputable def ti207 : TI := ⟨.slice 210, 1, 24, [.slice none 0 0]⟩
theorem ti207_ok : tiOf Try.prog 207 = some ti207 := by kernel_rfl
noncomputable def ti208 : TI := ⟨.struct [(0, 58), (1, 207), (2, 206)], 3, 40, [.pointer none, .slice none 0 0, .map none]⟩
theorem ti208_ok : tiOf Try.prog 208 = some ti208 := by kernel_rfl
noncomputable def ti209 : TI := ⟨.struct [(0, 58), (1, 207), (2, 206)], 3, 40, [.pointer none, .slice none 0 0, .map none]⟩
theorem ti209_ok : tiOf Try.prog 209 = some ti209 := by kernel_rfl
noncomputable def ti210 : TI := ⟨.slice 212, 1, 24, [.slice none 0 0]⟩
theorem ti210_ok : tiOf Try.prog 210 = some ti210 := by kernel_rfl
noncomputable def ti211 : TI := ⟨.struct [(0, 84), (6, 133)], 7, 144, [.int .i64 0, .string ⟨#[]⟩, .slice none 0 0, .slice none 0 0, .slice none 0 0, .slice none 0 0, .slice none 0 0]⟩
theorem ti211_ok : tiOf Try.prog 211 = some ti211 := by kernel_rfl
noncomputable def ti212 : TI := ⟨.struct [(0, 84), (6, 133)], 7, 144, [.int .i64 0, .string ⟨#[]⟩, .slice none 0 0, .slice none 0 0, .slice none 0 0, .slice none 0 0, .slice none 0 0]⟩
theorem ti212_ok : tiOf Try.prog 212 = some ti212 := by kernel_rfl
noncomputable def ti213 : TI := ⟨.func, 1, 8, [.nilFunc]⟩
theorem ti213_ok : tiOf Try.prog 213 = some ti213 := by kernel_rfl
noncomputable def ti214 : TI := ⟨.func, 1, 8, [.nilFunc]⟩
theorem ti214_ok : tiOf Try.prog 214 = some ti214 := by kernel_rfl
noncomputable def ti215 : TI := ⟨.func, 1, 8, [.nilFunc]⟩
theorem ti215_ok : tiOf Try.prog 215 = some ti215 := by kernel_rfl
noncomputable def ti216 : TI := ⟨.func, 1, 8, [.nilFunc]⟩
theorem ti216_ok : tiOf Try.prog 216 = some ti216 := by kernel_rfl
noncomputable def ti217 : TI := ⟨.struct [(0, 3), (1, 3), (2, 3), (3, 4)], 4, 32, [.int .i64 0, .int .i64 0, .int .i64 0, .bool false]⟩
theorem ti217_ok : tiOf Try.prog 217 = some ti217 := by kernel_rfl
noncomputable def ti218 : TI := ⟨.struct [(0, 3), (1, 3), (2, 3), (3, 4)], 4, 32, [.int .i64 0, .int .i64 0, .int .i64 0, .bool false]⟩
theorem ti218_ok : tiOf Try.prog 218 = some ti218 := by kernel_rfl
noncomputable def ti219 : TI := ⟨.func, 1, 8, [.nilFunc]⟩
theorem ti219_ok : tiOf Try.prog 219 = some ti219 := by kernel_rfl
noncomputable def ti220 : TI := ⟨.func, 1, 8, [.nilFunc]⟩
theorem ti220_ok : tiOf Try.prog 220 = some ti220 := by kernel_rfl
noncomputable def ti222 : TI := ⟨.func, 1, 8, [.nilFunc]⟩
theorem ti222_ok : tiOf Try.prog 222 = some ti222 := by kernel_rfl
noncomputable def ti223 : TI := ⟨.func, 1, 8, [.nilFunc]⟩
theorem ti223_ok : tiOf Try.prog 223 = some ti223 := by kernel_rfl
noncomputable def ti224 : TI := ⟨.func, 1, 8, [.nilFunc]⟩
theorem ti224_ok : tiOf Try.prog 224 = some ti224 := by kernel_rfl
noncomputable def ti225 : TI := ⟨.func, 1, 8, [.nilFunc]⟩
theorem ti225_ok : tiOf Try.prog 225 = some ti225 := by kernel_rfl
noncomputable def ti226 : TI := ⟨.func, 1, 8, [.nilFunc]⟩
theorem ti226_ok : tiOf Try.prog 226 = some ti226 := by kernel_rfl
noncomputable def ti227 : TI := ⟨.func, 1, 8, [.nilFunc]⟩
theorem ti227_ok : tiOf Try.prog 227 = some ti227 := by kernel_rfl
noncomputable def ti228 : TI := ⟨.func, 1, 8, [.nilFunc]⟩
theorem ti228_ok : tiOf Try.prog 228 = some ti228 := by kernel_rfl
noncomputable def ti229 : TI := ⟨.func, 1, 8, [.nilFunc]⟩
theorem ti229_ok : tiOf Try.prog 229 = some ti229 := by kernel_rfl
noncomputable def ti230 : TI := ⟨.func, 1, 8, [.nilFunc]⟩
theorem ti230_ok : tiOf Try.prog 230 = some ti230 := by kernel_rfl
noncomputable def ti231 : TI := ⟨.func, 1, 8, [.nilFunc]⟩
theorem ti231_ok : tiOf Try.prog 231 = some ti231 := by kernel_rfl
noncomputable def ti233 : TI := ⟨.func, 1, 8, [.nilFunc]⟩
theorem ti233_ok : tiOf Try.prog 233 = some ti233 := by kernel_rfl
noncomputable def ti234 : TI := ⟨.struct [(0, 17), (1, 17), (2, 17), (3, 9)], 4, 40, [.pointer none, .pointer none, .pointer none, .string ⟨#[]⟩]⟩
theorem ti234_ok : tiOf Try.prog 234 = some ti234 := by kernel_rfl
noncomputable def ti235 : TI := ⟨.struct [(0, 17), (1, 17), (2, 17), (3, 9)], 4, 40, [.pointer none, .pointer none, .pointer none, .string ⟨#[]⟩]⟩
theorem ti235_ok : tiOf Try.prog 235 = some ti235 := by kernel_rfl
noncomputable def ti236 : TI := ⟨.array 0 16, 0, 0, []⟩
theorem ti236_ok : tiOf Try.prog 236 = some ti236 := by kernel_rfl
noncomputable def ti237 : TI := ⟨.struct [(0, 236)], 0, 0, []⟩
theorem ti237_ok : tiOf Try.prog 237 = some ti237 := by kernel_rfl
noncomputable def ti238 : TI := ⟨.struct [(0, 236)], 0, 0, []⟩
theorem ti238_ok : tiOf Try.prog 238 = some ti238 := by kernel_rfl
noncomputable def ti239 : TI := ⟨.int .u8, 1, 1, [.int .u8 0]⟩
theorem ti239_ok : tiOf Try.prog 239 = some ti239 := by kernel_rfl
noncomputable def ti240 : TI := ⟨.int .u8, 1, 1, [.int .u8 0]⟩
theorem ti240_ok : tiOf Try.prog 240 = some ti240 := by kernel_rfl
noncomputable def ti241 : TI := ⟨.func, 1, 8, [.nilFunc]⟩
theorem ti241_ok : tiOf Try.prog 241 = some ti241 := by kernel_rfl
noncomputable def ti242 : TI := ⟨.ptr 5, 1, 8, [.pointer none]⟩
theorem ti242_ok : tiOf Try.prog 242 = some ti242 := by kernel_rfl
noncomputable def ti243 : TI := ⟨.int .i32, 1, 4, [.int .i32 0]⟩
theorem ti243_ok : tiOf Try.prog 243 = some ti243 := by kernel_rfl
noncomputable def ti244 : TI := ⟨.int .i32, 1, 4, [.int .i32 0]⟩
theorem ti244_ok : tiOf Try.prog 244 = some ti244 := by kernel_rfl
noncomputable def ti245 : TI := ⟨.struct [(0, 12), (1, 12), (2, 169), (3, 239), (4, 5), (5, 5), (6, 240), (7, 241), (8, 242), (9, 243), (10, 244)], 11, 48, [.int .u64 0, .int .u64 0, .int .u32 0, .int .u8 0, .int .u8 0, .int .u8 0, .int .u8 0, .nilFunc, .pointer none, .int .i32 0, .int .i32 0]⟩
theorem ti245_ok : tiOf Try.prog 245 = some ti245 := by kernel_rfl
noncomputable def ti246 : TI := ⟨.struct [(0, 12), (1, 12), (2, 169), (3, 239), (4, 5), (5, 5), (6, 240), (7, 241), (8, 242), (9, 243), (10, 244)], 11, 48, [.int .u64 0, .int .u64 0, .int .u32 0, .int .u8 0, .int .u8 0, .int .u8 0, .int .u8 0, .nilFunc, .pointer none, .int .i32 0, .int .i32 0]⟩
theorem ti246_ok : tiOf Try.prog 246 = some ti246 := by kernel_rfl
noncomputable def tiT : Tr TI := .node none (.node (some ti1) (.node (some ti3) (.node (some ti7) (.node (some ti15) (.node (some ti31) (.node (some ti63) (.node (some ti127) .leaf .leaf) (.node (some ti191) .leaf .leaf)) (.node (some ti95) (.node (some ti159) .leaf .leaf) (.node (some ti223) .leaf .leaf))) (.node (some ti47) (.node (some ti79) (.node (some ti143) .leaf .leaf) (.node (some ti207) .leaf .leaf)) (.node (some ti111) (.node (some ti175) .leaf .leaf) (.node (some ti239) .leaf .leaf)))) (.node (some ti23) (.node (some ti39) (.node (some ti71) (.node (some ti135) .leaf .leaf) (.node (some ti199) .leaf .leaf)) (.node (some ti103) (.node (some ti167) .leaf .leaf) (.node (some ti231) .leaf .leaf))) (.node (some ti55) (.node (some ti87) (.node (some ti151) .leaf .leaf) (.node (some ti215) .leaf .leaf)) (.node none (.node (some ti183) .leaf .leaf) .leaf)))) (.node (some ti11) (.node (some ti19) (.node (some ti35) (.node (some ti67) (.node (some ti131) .leaf .leaf) (.node (some ti195) .leaf .leaf)) (.node (some ti99) (.node (some ti163) .leaf .leaf) (.node (some ti227) .leaf .leaf))) (.node (some ti51) (.node (some ti83) (.node (some ti147) .leaf .leaf) (.node (some ti211) .leaf .leaf)) (.node none (.node (some ti179) .leaf .leaf) (.node (some ti243) .leaf .leaf)))) (.node (some ti27) (.node (some ti43) (.node (some ti75) (.node (some ti139) .leaf .leaf) (.node (some ti203) .leaf .leaf)) (.node (some ti107) (.node (some ti171) .leaf .leaf) (.node (some ti235) .leaf .leaf))) (.node none (.node (some ti91) (.node (some ti155) .leaf .leaf) (.node (some ti219) .leaf .leaf)) (.node (some ti123) (.node (some ti187) .leaf .leaf) .leaf))))) (.node (some ti5) (.node (some ti9) (.node (some ti17) (.node (some ti33) (.node (some ti65) (.node (some ti129) .leaf .leaf) (.node (some ti193) .leaf .leaf)) (.node (some ti97) (.node (some ti161) .leaf .leaf) (.node (some ti225) .leaf .leaf))) (.node (some ti49) (.node (some ti81) (.node (some ti145) .leaf .leaf) (.node (some ti209) .leaf .leaf)) (.node (some ti113) (.node (some ti177) .leaf .leaf) (.node (some ti241) .leaf .leaf)))) (.node (some ti25) (.node (some ti41) (.node (some ti73) (.node (some ti137) .leaf .leaf) (.node (some ti201) .leaf .leaf)) (.node (some ti105) (.node (some ti169) .leaf .leaf) (.node (some ti233) .leaf .leaf))) (.node (some ti57) (.node (some ti89) (.node (some ti153) .leaf .leaf) (.node (some ti217) .leaf .leaf)) (.node (some ti121) (.node (some ti185) .leaf .leaf) .leaf)))) (.node (some ti13) (.node (some ti21) (.node (some ti37) (.node (some ti69) (.node (some ti133) .leaf .leaf) (.node (some ti197) .leaf .leaf)) (.node (some ti101) (.node (some ti165) .leaf .leaf) (.node (some ti229) .leaf .leaf))) (.node (some ti53) (.node (some ti85) (.node (some ti149) .leaf .leaf) (.node (some ti213) .leaf .leaf)) (.node (some ti117) .leaf (.node (some ti245) .leaf .leaf)))) (.node (some ti29) (.node (some ti45) (.node (some ti77) (.node (some ti141) .leaf .leaf) (.node (some ti205) .leaf .leaf)) (.node (some ti109) (.node (some ti173) .leaf .leaf) (.node (some ti237) .leaf .leaf))) (.node (some ti61) (.node (some ti93) (.node (some ti157) .leaf .leaf) .leaf) (.node (some ti125) (.node (some ti189) .leaf .leaf) .leaf)))))) (.node (some ti2) (.node (some ti4) (.node (some ti8) (.node (some ti16) (.node (some ti32) (.node (some ti64) (.node (some ti128) .leaf .leaf) (.node (some ti192) .leaf .leaf)) (.node (some ti96) (.node (some ti160) .leaf .leaf) (.node (some ti224) .leaf .leaf))) (.node (some ti48) (.node (some ti80) (.node (some ti144) .leaf .leaf) (.node (some ti208) .leaf .leaf)) (.node (some ti112) (.node (some ti176) .leaf .leaf) (.node (some ti240) .leaf .leaf)))) (.node (some ti24) (.node (some ti40) (.node (some ti72) (.node (some ti136) .leaf .leaf) (.node (some ti200) .leaf .leaf)) (.node (some ti104) (.node (some ti168) .leaf .leaf) .leaf)) (.node (some ti56) (.node (some ti88) (.node (some ti152) .leaf .leaf) (.node (some ti216) .leaf .leaf)) (.node (some ti120) (.node (some ti184) .leaf .leaf) .leaf)))) (.node (some ti12) (.node none (.node (some ti36) (.node (some ti68) (.node (some ti132) .leaf .leaf) (.node (some ti196) .leaf .leaf)) (.node (some ti100) (.node (some ti164) .leaf .leaf) (.node (some ti228) .leaf .leaf))) (.node (some ti52) (.node (some ti84) (.node (some ti148) .leaf .leaf) (.node (some ti212) .leaf .leaf)) (.node (some ti116) (.node (some ti180) .leaf .leaf) (.node (some ti244) .leaf .leaf)))) (.node none (.node (some ti44) (.node (some ti76) (.node (some ti140) .leaf .leaf) (.node (some ti204) .leaf .leaf)) (.node (some ti108) (.node (some ti172) .leaf .leaf) (.node (some ti236) .leaf .leaf))) (.node (some ti60) (.node (some ti92) (.node (some ti156) .leaf .leaf) (.node (some ti220) .leaf .leaf)) (.node (some ti124) (.node (some ti188) .leaf .leaf) .leaf))))) (.node (some ti6) (.node (some ti10) (.node (some ti18) (.node (some ti34) (.node (some ti66) (.node (some ti130) .leaf .leaf) (.node (some ti194) .leaf .leaf)) (.node (some ti98) .leaf (.node (some ti226) .leaf .leaf))) (.node (some ti50) (.node (some ti82) (.node (some ti146) .leaf .leaf) (.node (some ti210) .leaf .leaf)) (.node (some ti114) (.node (some ti178) .leaf .leaf) (.node (some ti242) .leaf .leaf)))) (.node (some ti26) (.node (some ti42) (.node (some ti74) (.node (some ti138) .leaf .leaf) (.node (some ti202) .leaf .leaf)) (.node none (.node (some ti170) .leaf .leaf) (.node (some ti234) .leaf .leaf))) (.node (some ti58) (.node (some ti90) (.node (some ti154) .leaf .leaf) (.node (some ti218) .leaf .leaf)) (.node (some ti122) (.node (some ti186) .leaf .leaf) .leaf)))) (.node (some ti14) (.node (some ti22) (.node (some ti38) (.node (some ti70) (.node (some ti134) .leaf .leaf) (.node (some ti198) .leaf .leaf)) (.node (some ti102) (.node (some ti166) .leaf .leaf) (.node (some ti230) .leaf .leaf))) (.node (some ti54) (.node (some ti86) (.node (some ti150) .leaf .leaf) (.node (some ti214) .leaf .leaf)) (.node (some ti118) (.node (some ti182) .leaf .leaf) (.node (some ti246) .leaf .leaf)))) (.node (some ti30) (.node (some ti46) (.node (some ti78) (.node (some ti142) .leaf .leaf) (.node (some ti206) .leaf .leaf)) (.node (some ti110) (.node (some ti174) .leaf .leaf) (.node (some ti238) .leaf .leaf))) (.node (some ti62) (.node (some ti94) (.node (some ti158) .leaf .leaf) (.node (some ti222) .leaf .leaf)) (.node (some ti126) (.node (some ti190) .leaf .leaf) .leaf))))))
theorem tiT_list : tiT.toL = [(1, ti1), (3, ti3), (7, ti7), (15, ti15), (31, ti31), (63, ti63), (127, ti127), (191, ti191), (95, ti95), (159, ti159), (223, ti223), (47, ti47), (79, ti79), (143, ti143), (207, ti207), (111, ti111), (175, ti175), (239, ti239), (23, ti23), (39, ti39), (71, ti71), (135, ti135), (199, ti199), (103, ti103), (167, ti167), (231, ti231), (55, ti55), (87, ti87), (151, ti151), (215, ti215), (183, ti183), (11, ti11), (19, ti19), (35, ti35), (67, ti67), (131, ti131), (195, ti195), (99, ti99), (163, ti163), (227, ti227), (51, ti51), (83, ti83), (147, ti147), (211, ti211), (179, ti179), (243, ti243), (27, ti27), (43, ti43), (75, ti75), (139, ti139), (203, ti203), (107, ti107), (171, ti171), (235, ti235), (91, ti91), (155, ti155), (219, ti219), (123, ti123), (187, ti187), (5, ti5), (9, ti9), (17, ti17), (33, ti33), (65, ti65), (129, ti129), (193, ti193), (97, ti97), (161, ti161), (225, ti225), (49, ti49), (81, ti81), (145, ti145), (209, ti209), (113, ti113), (177, ti177), (241, ti241), (25, ti25), (41, ti41), (73, ti73), (137, ti137), (201, ti201), (105, ti105), (169, ti169), (233, ti233), (57, ti57), (89, ti89), (153, ti153), (217, ti217), (121, ti121), (185, ti185), (13, ti13), (21, ti21), (37, ti37), (69, ti69), (133, ti133), (197, ti197), (101, ti101), (165, ti165), (229, ti229), (53, ti53), (85, ti85), (149, ti149), (213, ti213), (117, ti117), (245, ti245), (29, ti29), (45, ti45), (77, ti77), (141, ti141), (205, ti205), (109, ti109), (173, ti173), (237, ti237), (61, ti61), (93, ti93), (157, ti157), (125, ti125), (189, ti189), (2, ti2), (4, ti4), (8, ti8), (16, ti16), (32, ti32), (64, ti64), (128, ti128), (192, ti192), (96, ti96), (160, ti160), (224, ti224), (48, ti48), (80, ti80), (144, ti144), (208, ti208), (112, ti112), (176, ti176), (240, ti240), (24, ti24), (40, ti40), (72, ti72), (136, ti136), (200, ti200), (104, ti104), (168, ti168), (56, ti56), (88, ti88), (152, ti152), (216, ti216), (120, ti120), (184, ti184), (12, ti12), (36, ti36), (68, ti68), (132, ti132), (196, ti196), (100, ti100), (164, ti164), (228, ti228), (52, ti52), (84, ti84), (148, ti148), (212, ti212), (116, ti116), (180, ti180), (244, ti244), (44, ti44), (76, ti76), (140, ti140), (204, ti204), (108, ti108), (172, ti172), (236, ti236), (60, ti60), (92, ti92), (156, ti156), (220, ti220), (124, ti124), (188, ti188), (6, ti6), (10, ti10), (18, ti18), (34, ti34), (66, ti66), (130, ti130), (194, ti194), (98, ti98), (226, ti226), (50, ti50), (82, ti82), (146, ti146), (210, ti210), (114, ti114), (178, ti178), (242, ti242), (26, ti26), (42, ti42), (74, ti74), (138, ti138), (202, ti202), (170, ti170), (234, ti234), (58, ti58), (90, ti90), (154, ti154), (218, ti218), (122, ti122), (186, ti186), (14, ti14), (22, ti22), (38, ti38), (70, ti70), (134, ti134), (198, ti198), (102, ti102), (166, ti166), (230, ti230), (54, ti54), (86, ti86), (150, ti150), (214, ti214), (118, ti118), (182, ti182), (246, ti246), (30, ti30), (46, ti46), (78, ti78), (142, ti142), (206, ti206), (110, ti110), (174, ti174), (238, ti238), (62, ti62), (94, ti94), (158, ti158), (222, ti222), (126, ti126), (190, ti190)] := by kernel_rfl
theorem tiT_ok : ∀ t i, tiT.get t = some i → tiOf Try.prog t = some i := by
 refine Tr.all_get (p := fun t i => tiOf Try.prog t = some i) ?_
 rw [tiT_list]
 exact .cons ti1_ok (.cons ti3_ok (.cons ti7_ok (.cons ti15_ok (.cons ti31_ok (.cons ti63_ok (.cons ti127_ok (.cons ti191_ok (.cons ti95_ok (.cons ti159_ok (.cons ti223_ok (.cons ti47_ok (.cons ti79_ok (.cons ti143_ok (.cons ti207_ok (.cons ti111_ok (.cons ti175_ok (.cons ti239_ok (.cons ti23_ok (.cons ti39_ok (.cons ti71_ok (.cons ti135_ok (.cons ti199_ok (.cons ti103_ok (.cons ti167_ok (.cons ti231_ok (.cons ti55_ok (.cons ti87_ok (.cons ti151_ok (.cons ti215_ok (.cons ti183_ok (.cons ti11_ok (.cons ti19_ok (.cons ti35_ok (.cons ti67_ok (.cons ti131_ok (.cons ti195_ok (.cons ti99_ok (.cons ti163_ok (.cons ti227_ok (.cons ti51_ok (.cons ti83_ok (.cons ti147_ok (.cons ti211_ok (.cons ti179_ok (.cons ti243_ok (.cons ti27_ok (.cons ti43_ok (.cons ti75_ok (.cons ti139_ok (.cons ti203_ok (.cons ti107_ok (.cons ti171_ok (.cons ti235_ok (.cons ti91_ok (.cons ti155_ok (.cons ti219_ok (.cons ti123_ok (.cons ti187_ok (.cons ti5_ok (.cons ti9_ok (.cons ti17_ok (.cons ti33_ok (.cons ti65_ok (.cons ti129_ok (.cons ti193_ok (.cons ti97_ok (.cons ti161_ok (.cons ti225_ok (.cons ti49_ok (.cons ti81_ok (.cons ti145_ok (.cons ti209_ok (.cons ti113_ok (.cons ti177_ok (.cons ti241_ok (.cons ti25_ok (.cons ti41_ok (.cons ti73_ok (.cons ti137_ok (.cons ti201_ok (.cons ti105_ok (.cons ti169_ok (.cons ti233_ok (.cons ti57_ok (.cons ti89_ok (.cons ti153_ok (.cons ti217_ok (.cons ti121_ok (.cons ti185_ok (.cons ti13_ok (.cons ti21_ok (.cons ti37_ok (.cons ti69_ok (.cons ti133_ok (.cons ti197_ok (.cons ti101_ok (.cons ti165_ok (.cons ti229_ok (.cons ti53_ok (.cons ti85_ok (.cons ti149_ok (.cons ti213_ok (.cons ti117_ok (.cons ti245_ok (.cons ti29_ok (.cons ti45_ok (.cons ti77_ok (.cons ti141_ok (.cons ti205_ok (.cons ti109_ok (.cons ti173_ok (.cons ti237_ok (.cons ti61_ok (.cons ti93_ok (.cons ti157_ok (.cons ti125_ok (.cons ti189_ok (.cons ti2_ok (.cons ti4_ok (.cons ti8_ok (.cons ti16_ok (.cons ti32_ok (.cons ti64_ok (.cons ti128_ok (.cons ti192_ok (.cons ti96_ok (.cons ti160_ok (.cons ti224_ok (.cons ti48_ok (.cons ti80_ok (.cons ti144_ok (.cons ti208_ok (.cons ti112_ok (.cons ti176_ok (.cons ti240_ok (.cons ti24_ok (.cons ti40_ok (.cons ti72_ok (.cons ti136_ok (.cons ti200_ok (.cons ti104_ok (.cons ti168_ok (.cons ti56_ok (.cons ti88_ok (.cons ti152_ok (.cons ti216_ok (.cons ti120_ok (.cons ti184_ok (.cons ti12_ok (.cons ti36_ok (.cons ti68_ok (.cons ti132_ok (.cons ti196_ok (.cons ti100_ok (.cons ti164_ok (.cons ti228_ok (.cons ti52_ok (.cons ti84_ok (.cons ti148_ok (.cons ti212_ok (.cons ti116_ok (.cons ti180_ok (.cons ti244_ok (.cons ti44_ok (.cons ti76_ok (.cons ti140_ok (.cons ti204_ok (.cons ti108_ok (.cons ti172_ok (.cons ti236_ok (.cons ti60_ok (.cons ti92_ok (.cons ti156_ok (.cons ti220_ok (.cons ti124_ok (.cons ti188_ok (.cons ti6_ok (.cons ti10_ok (.cons ti18_ok (.cons ti34_ok (.cons ti66_ok (.cons ti130_ok (.cons ti194_ok (.cons ti98_ok (.cons ti226_ok (.cons ti50_ok (.cons ti82_ok (.cons ti146_ok (.cons ti210_ok (.cons ti114_ok (.cons ti178_ok (.cons ti242_ok (.cons ti26_ok (.cons ti42_ok (.cons ti74_ok (.cons ti138_ok (.cons ti202_ok (.cons ti170_ok (.cons ti234_ok (.cons ti58_ok (.cons ti90_ok (.cons ti154_ok (.cons ti218_ok (.cons ti122_ok (.cons ti186_ok (.cons ti14_ok (.cons ti22_ok (.cons ti38_ok (.cons ti70_ok (.cons ti134_ok (.cons ti198_ok (.cons ti102_ok (.cons ti166_ok (.cons ti230_ok (.cons ti54_ok (.cons ti86_ok (.cons ti150_ok (.cons ti214_ok (.cons ti118_ok (.cons ti182_ok (.cons ti246_ok (.cons ti30_ok (.cons ti46_ok (.cons ti78_ok (.cons ti142_ok (.cons ti206_ok (.cons ti110_ok (.cons ti174_ok (.cons ti238_ok (.cons ti62_ok (.cons ti94_ok (.cons ti158_ok (.cons ti222_ok (.cons ti126_ok (.cons ti190_ok (.nil))))))))))))))))))))))))))))))))))))))))))))))))))))))))))))))))))))))))))))))))))))))))))))))))))))))))))))))))))))))))))))))))))))))))))))))))))))))))))))))))))))))))))))))))))))))))))))))))))))))))))))))))))))))))))))))))))))))))))))
noncomputable def fnT : Tr Func := .node none (.node none (.node (some Try.f3) (.node (some Try.f7) (.node (some Try.f15) (.node (some Try.f31) (.node (some Try.f63) (.node (some Try.f127) .leaf .leaf) (.node (some Try.f191) .leaf .leaf)) (.node (some Try.f95) (.node (some Try.f159) .leaf .leaf) .leaf)) (.node (some Try.f47) (.node (some Try.f79) (.node (some Try.f143) .leaf .leaf) .leaf) (.node (some Try.f111) (.node (some Try.f175) .leaf .leaf) .leaf))) (.node (some Try.f23) (.node (some Try.f39) (.node (some Try.f71) (.node (some Try.f135) .leaf .leaf) .leaf) (.node (some Try.f103) (.node (some Try.f167) .leaf .leaf) .leaf)) (.node (some Try.f55) (.node (some Try.f87) (.node (some Try.f151) .leaf .leaf) .leaf) (.node (some Try.f119) (.node (some Try.f183) .leaf .leaf) .leaf)))) (.node (some Try.f11) (.node (some Try.f19) (.node (some Try.f35) (.node (some Try.f67) (.node (some Try.f131) .leaf .leaf) .leaf) (.node (some Try.f99) (.node (some Try.f163) .leaf .leaf) .leaf)) (.node (some Try.f51) (.node (some Try.f83) (.node (some Try.f147) .leaf .leaf) .leaf) (.node (some Try.f115) (.node (some Try.f179) .leaf .leaf) .leaf))) (.node (some Try.f27) (.node (some Try.f43) (.node (some Try.f75) (.node (some Try.f139) .leaf .leaf) .leaf) (.node (some Try.f107) (.node (some Try.f171) .leaf .leaf) .leaf)) (.node (some Try.f59) (.node (some Try.f91) (.node (some Try.f155) .leaf .leaf) .leaf) (.node (some Try.f123) (.node (some Try.f187) .leaf .leaf) .leaf))))) (.node (some Try.f5) (.node (some Try.f9) (.node (some Try.f17) (.node (some Try.f33) (.node (some Try.f65) (.node (some Try.f129) .leaf .leaf) (.node (some Try.f193) .leaf .leaf)) (.node (some Try.f97) (.node (some Try.f161) .leaf .leaf) .leaf)) (.node (some Try.f49) (.node (some Try.f81) (.node (some Try.f145) .leaf .leaf) .leaf) (.node (some Try.f113) (.node (some Try.f177) .leaf .leaf) .leaf))) (.node (some Try.f25) (.node (some Try.f41) (.node (some Try.f73) (.node (some Try.f137) .leaf .leaf) .leaf) (.node (some Try.f105) (.node (some Try.f169) .leaf .leaf) .leaf)) (.node (some Try.f57) (.node (some Try.f89) (.node (some Try.f153) .leaf .leaf) .leaf) (.node (some Try.f121) (.node (some Try.f185) .leaf .leaf) .leaf)))) (.node (some Try.f13) (.node (some Try.f21) (.node (some Try.f37) (.node (some Try.f69) (.node (some Try.f133) .leaf .leaf) .leaf) (.node (some Try.f101) (.node (some Try.f165) .leaf .leaf) .leaf)) (.node (some Try.f53) (.node (some Try.f85) (.node (some Try.f149) .leaf .leaf) .leaf) (.node (some Try.f117) (.node (some Try.f181) .leaf .leaf) .leaf))) (.node (some Try.f29) (.node (some Try.f45) (.node (some Try.f77) (.node (some Try.f141) .leaf .leaf) .leaf) (.node (some Try.f109) (.node (some Try.f173) .leaf .leaf) .leaf)) (.node (some Try.f61) (.node (some Try.f93) (.node (some Try.f157) .leaf .leaf) .leaf) (.node (some Try.f125) (.node (some Try.f189) .leaf .leaf) .leaf)))))) (.node none (.node (some Try.f4) (.node (some Try.f8) (.node (some Try.f16) (.node (some Try.f32) (.node (some Try.f64) (.node (some Try.f128) .leaf .leaf) (.node (some Try.f192) .leaf .leaf)) (.node (some Try.f96) (.node (some Try.f160) .leaf .leaf) .leaf)) (.node (some Try.f48) (.node (some Try.f80) (.node (some Try.f144) .leaf .leaf) .leaf) (.node (some Try.f112) (.node (some Try.f176) .leaf .leaf) .leaf))) (.node (some Try.f24) (.node (some Try.f40) (.node (some Try.f72) (.node (some Try.f136) .leaf .leaf) .leaf) (.node (some Try.f104) (.node (some Try.f168) .leaf .leaf) .leaf)) (.node (some Try.f56) (.node (some Try.f88) (.node (some Try.f152) .leaf .leaf) .leaf) (.node (some Try.f120) (.node (some Try.f184) .leaf .leaf) .leaf)))) (.node (some Try.f12) (.node (some Try.f20) (.node (some Try.f36) (.node (some Try.f68) (.node (some Try.f132) .leaf .leaf) .leaf) (.node (some Try.f100) (.node (some Try.f164) .leaf .leaf) .leaf)) (.node (some Try.f52) (.node (some Try.f84) (.node (some Try.f148) .leaf .leaf) .leaf) (.node (some Try.f116) (.node (some Try.f180) .leaf .leaf) .leaf))) (.node (some Try.f28) (.node (some Try.f44) (.node (some Try.f76) (.node (some Try.f140) .leaf .leaf) .leaf) (.node (some Try.f108) (.node (some Try.f172) .leaf .leaf) .leaf)) (.node (some Try.f60) (.node (some Try.f92) (.node (some Try.f156) .leaf .leaf) .leaf) (.node (some Try.f124) (.node (some Try.f188) .leaf .leaf) .leaf))))) (.node (some Try.f6) (.node (some Try.f10) (.node (some Try.f18) (.node (some Try.f34) (.node (some Try.f66) (.node (some Try.f130) .leaf .leaf) .leaf) (.node (some Try.f98) (.node (some Try.f162) .leaf .leaf) .leaf)) (.node (some Try.f50) (.node (some Try.f82) (.node (some Try.f146) .leaf .leaf) .leaf) (.node (some Try.f114) (.node (some Try.f178) .leaf .leaf) .leaf))) (.node (some Try.f26) (.node (some Try.f42) (.node (some Try.f74) (.node (some Try.f138) .leaf .leaf) .leaf) (.node (some Try.f106) (.node (some Try.f170) .leaf .leaf) .leaf)) (.node (some Try.f58) (.node (some Try.f90) (.node (some Try.f154) .leaf .leaf) .leaf) (.node (some Try.f122) (.node (some Try.f186) .leaf .leaf) .leaf)))) (.node (some Try.f14) (.node (some Try.f22) (.node (some Try.f38) (.node (some Try.f70) (.node (some Try.f134) .leaf .leaf) .leaf) (.node (some Try.f102) (.node (some Try.f166) .leaf .leaf) .leaf)) (.node (some Try.f54) (.node (some Try.f86) (.node (some Try.f150) .leaf .leaf) .leaf) (.node (some Try.f118) (.node (some Try.f182) .leaf .leaf) .leaf))) (.node (some Try.f30) (.node (some Try.f46) (.node (some Try.f78) (.node (some Try.f142) .leaf .leaf) .leaf) (.node (some Try.f110) (.node (some Try.f174) .leaf .leaf) .leaf)) (.node (some Try.f62) (.node (some Try.f94) (.node (some Try.f158) .leaf .leaf) .leaf) (.node (some Try.f126) (.node (some Try.f190) .leaf .leaf) .leaf))))))
theorem fnT_list : fnT.toL = [(3, Try.f3), (7, Try.f7), (15, Try.f15), (31, Try.f31), (63, Try.f63), (127, Try.f127), (191, Try.f191), (95, Try.f95), (159, Try.f159), (47, Try.f47), (79, Try.f79), (143, Try.f143), (111, Try.f111), (175, Try.f175), (23, Try.f23), (39, Try.f39), (71, Try.f71), (135, Try.f135), (103, Try.f103), (167, Try.f167), (55, Try.f55), (87, Try.f87), (151, Try.f151), (119, Try.f119), (183, Try.f183), (11, Try.f11), (19, Try.f19), (35, Try.f35), (67, Try.f67), (131, Try.f131), (99, Try.f99), (163, Try.f163), (51, Try.f51), (83, Try.f83), (147, Try.f147), (115, Try.f115), (179, Try.f179), (27, Try.f27), (43, Try.f43), (75, Try.f75), (139, Try.f139), (107, Try.f107), (171, Try.f171), (59, Try.f59), (91, Try.f91), (155, Try.f155), (123, Try.f123), (187, Try.f187), (5, Try.f5), (9, Try.f9), (17, Try.f17), (33, Try.f33), (65, Try.f65), (129, Try.f129), (193, Try.f193), (97, Try.f97), (161, Try.f161), (49, Try.f49), (81, Try.f81), (145, Try.f145), (113, Try.f113), (177, Try.f177), (25, Try.f25), (41, Try.f41), (73, Try.f73), (137, Try.f137), (105, Try.f105), (169, Try.f169), (57, Try.f57), (89, Try.f89), (153, Try.f153), (121, Try.f121), (185, Try.f185), (13, Try.f13), (21, Try.f21), (37, Try.f37), (69, Try.f69), (133, Try.f133), (101, Try.f101), (165, Try.f165), (53, Try.f53), (85, Try.f85), (149, Try.f149), (117, Try.f117), (181, Try.f181), (29, Try.f29), (45, Try.f45), (77, Try.f77), (141, Try.f141), (109, Try.f109), (173, Try.f173), (61, Try.f61), (93, Try.f93), (157, Try.f157), (125, Try.f125), (189, Try.f189), (4, Try.f4), (8, Try.f8), (16, Try.f16), (32, Try.f32), (64, Try.f64), (128, Try.f128), (192, Try.f192), (96, Try.f96), (160, Try.f160), (48, Try.f48), (80, Try.f80), (144, Try.f144), (112, Try.f112), (176, Try.f176), (24, Try.f24), (40, Try.f40), (72, Try.f72), (136, Try.f136), (104, Try.f104), (168, Try.f168), (56, Try.f56), (88, Try.f88), (152, Try.f152), (120, Try.f120), (184, Try.f184), (12, Try.f12), (20, Try.f20), (36, Try.f36), (68, Try.f68), (132, Try.f132), (100, Try.f100), (164, Try.f164), (52, Try.f52), (84, Try.f84), (148, Try.f148), (116, Try.f116), (180, Try.f180), (28, Try.f28), (44, Try.f44), (76, Try.f76), (140, Try.f140), (108, Try.f108), (172, Try.f172), (60, Try.f60), (92, Try.f92), (156, Try.f156), (124, Try.f124), (188, Try.f188), (6, Try.f6), (10, Try.f10), (18, Try.f18), (34, Try.f34), (66, Try.f66), (130, Try.f130), (98, Try.f98), (162, Try.f162), (50, Try.f50), (82, Try.f82), (146, Try.f146), (114, Try.f114), (178, Try.f178), (26, Try.f26), (42, Try.f42), (74, Try.f74), (138, Try.f138), (106, Try.f106), (170, Try.f170), (58, Try.f58), (90, Try.f90), (154, Try.f154), (122, Try.f122), (186, Try.f186), (14, Try.f14), (22, Try.f22), (38, Try.f38), (70, Try.f70), (134, Try.f134), (102, Try.f102), (166, Try.f166), (54, Try.f54), (86, Try.f86), (150, Try.f150), (118, Try.f118), (182, Try.f182), (30, Try.f30), (46, Try.f46), (78, Try.f78), (142, Try.f142), (110, Try.f110), (174, Try.f174), (62, Try.f62), (94, Try.f94), (158, Try.f158), (126, Try.f126), (190, Try.f190)] := by kernel_rfl
def fnP (k : Nat) (f : Func) : Prop := Try.prog.funcs[k]? = some f ∧ (f.name == "runtime.NumGoroutine") = false
theorem fnT_ok : ∀ k f, fnT.get k = some f → Try.prog.funcs[k]? = some f ∧ (f.name == "runtime.NumGoroutine") = false := by
 refine Tr.all_get (p := fnP) ?_
 rw [fnT_list]
 exact .cons ⟨Try.func3, by kernel_rfl⟩ (.cons ⟨Try.func7, by kernel_rfl⟩ (.cons ⟨Try.func15, by kernel_rfl⟩ (.cons ⟨Try.func31, by kernel_rfl⟩ (.cons ⟨Try.func63, by kernel_rfl⟩ (.cons ⟨Try.func127, by kernel_rfl⟩ (.cons ⟨Try.func191, by kernel_rfl⟩ (.cons ⟨Try.func95, by kernel_rfl⟩ (.cons ⟨Try.func159, by kernel_rfl⟩ (.cons ⟨Try.func47, by kernel_rfl⟩ (.cons ⟨Try.func79, by kernel_rfl⟩ (.cons ⟨Try.func143, by kernel_rfl⟩ (.cons ⟨Try.func111, by kernel_rfl⟩ (.cons ⟨Try.func175, by kernel_rfl⟩ (.cons ⟨Try.func23, by kernel_rfl⟩ (.cons ⟨Try.func39, by kernel_rfl⟩ (.cons ⟨Try.func71, by kernel_rfl⟩ (.cons ⟨Try.func135, by kernel_rfl⟩ (.cons ⟨Try.func103, by kernel_rfl⟩ (.cons ⟨Try.func167, by kernel_rfl⟩ (.cons ⟨Try.func55, by kernel_rfl⟩ (.cons ⟨Try.func87, by kernel_rfl⟩ (.cons ⟨Try.func151, by kernel_rfl⟩ (.cons ⟨Try.func119, by kernel_rfl⟩ (.cons ⟨Try.func183, by kernel_rfl⟩ (.cons ⟨Try.func11, by kernel_rfl⟩ (.cons ⟨Try.func19, by kernel_rfl⟩ (.cons ⟨Try.func35, by kernel_rfl⟩ (.cons ⟨Try.func67, by kernel_rfl⟩ (.cons ⟨Try.func131, by kernel_rfl⟩ (.cons ⟨Try.func99, by kernel_rfl⟩ (.cons ⟨Try.func163, by kernel_rfl⟩ (.cons ⟨Try.func51, by kernel_rfl⟩ (.cons ⟨Try.func83, by kernel_rfl⟩ (.cons ⟨Try.func147, by kernel_rfl⟩ (.cons ⟨Try.func115, by kernel_rfl⟩ (.cons ⟨Try.func179, by kernel_rfl⟩ (.cons ⟨Try.func27, by kernel_rfl⟩ (.cons ⟨Try.func43, by kernel_rfl⟩ (.cons ⟨Try.func75, by kernel_rfl⟩ (.cons ⟨Try.func139, by kernel_rfl⟩ (.cons ⟨Try.func107, by kernel_rfl⟩ (.cons ⟨Try.func171, by kernel_rfl⟩ (.cons ⟨Try.func59, by kernel_rfl⟩ (.cons ⟨Try.func91, by kernel_rfl⟩ (.cons ⟨Try.func155, by kernel_rfl⟩ (.cons ⟨Try.func123, by kernel_rfl⟩ (.cons ⟨Try.func187, by kernel_rfl⟩ (.cons ⟨Try.func5, by kernel_rfl⟩ (.cons ⟨Try.func9, by kernel_rfl⟩ (.cons ⟨Try.func17, by kernel_rfl⟩ (.cons ⟨Try.func33, by kernel_rfl⟩ (.cons ⟨Try.func65, by kernel_rfl⟩ (.cons ⟨Try.func129, by kernel_rfl⟩ (.cons ⟨Try.func193, by kernel_rfl⟩ (.cons ⟨Try.func97, by kernel_rfl⟩ (.cons ⟨Try.func161, by kernel_rfl⟩ (.cons ⟨Try.func49, by kernel_rfl⟩ (.cons ⟨Try.func81, by kernel_rfl⟩ (.cons ⟨Try.func145, by kernel_rfl⟩ (.cons ⟨Try.func113, by kernel_rfl⟩ (.cons ⟨Try.func177, by kernel_rfl⟩ (.cons ⟨Try.func25, by kernel_rfl⟩ (.cons ⟨Try.func41, by kernel_rfl⟩ (.cons ⟨Try.func73, by kernel_rfl⟩ (.cons ⟨Try.func137, by kernel_rfl⟩ (.cons ⟨Try.func105, by kernel_rfl⟩ (.cons ⟨Try.func169, by kernel_rfl⟩ (.cons ⟨Try.func57, by kernel_rfl⟩ (.cons ⟨Try.func89, by kernel_rfl⟩ (.cons ⟨Try.func153, by kernel_rfl⟩ (.cons ⟨Try.func121, by kernel_rfl⟩ (.cons ⟨Try.func185, by kernel_rfl⟩ (.cons ⟨Try.func13, by kernel_rfl⟩ (.cons ⟨Try.func21, by kernel_rfl⟩ (.cons ⟨Try.func37, by kernel_rfl⟩ (.cons ⟨Try.func69, by kernel_rfl⟩ (.cons ⟨Try.func133, by kernel_rfl⟩ (.cons ⟨Try.func101, by kernel_rfl⟩ (.cons ⟨Try.func165, by kernel_rfl⟩ (.cons ⟨Try.func53, by kernel_rfl⟩ (.cons ⟨Try.func85, by kernel_rfl⟩ (.cons ⟨Try.func149, by kernel_rfl⟩ (.cons ⟨Try.func117, by kernel_rfl⟩ (.cons ⟨Try.func181, by kernel_rfl⟩ (.cons ⟨Try.func29, by kernel_rfl⟩ (.cons ⟨Try.func45, by kernel_rfl⟩ (.cons ⟨Try.func77, by kernel_rfl⟩ (.cons ⟨Try.func141, by kernel_rfl⟩ (.cons ⟨Try.func109, by kernel_rfl⟩ (.cons ⟨Try.func173, by kernel_rfl⟩ (.cons ⟨Try.func61, by kernel_rfl⟩ (.cons ⟨Try.func93, by kernel_rfl⟩ (.cons ⟨Try.func157, by kernel_rfl⟩ (.cons ⟨Try.func125, by kernel_rfl⟩ (.cons ⟨Try.func189, by kernel_rfl⟩ (.cons ⟨Try.func4, by kernel_rfl⟩ (.cons ⟨Try.func8, by kernel_rfl⟩ (.cons ⟨Try.func16, by kernel_rfl⟩ (.cons ⟨Try.func32, by kernel_rfl⟩ (.cons ⟨Try.func64, by kernel_rfl⟩ (.cons ⟨Try.func128, by kernel_rfl⟩ (.cons ⟨Try.func192, by kernel_rfl⟩ (.cons ⟨Try.func96, by kernel_rfl⟩ (.cons ⟨Try.func160, by kernel_rfl⟩ (.cons ⟨Try.func48, by kernel_rfl⟩ (.cons ⟨Try.func80, by kernel_rfl⟩ (.cons ⟨Try.func144, by kernel_rfl⟩ (.cons ⟨Try.func112, by kernel_rfl⟩ (.cons ⟨Try.func176, by kernel_rfl⟩ (.cons ⟨Try.func24, by kernel_rfl⟩ (.cons ⟨Try.func40, by kernel_rfl⟩ (.cons ⟨Try.func72, by kernel_rfl⟩ (.cons ⟨Try.func136, by kernel_rfl⟩ (.cons ⟨Try.func104, by kernel_rfl⟩ (.cons ⟨Try.func168, by kernel_rfl⟩ (.cons ⟨Try.func56, by kernel_rfl⟩ (.cons ⟨Try.func88, by kernel_rfl⟩ (.cons ⟨Try.func152, by kernel_rfl⟩ (.cons ⟨Try.func120, by kernel_rfl⟩ (.cons ⟨Try.func184, by kernel_rfl⟩ (.cons ⟨Try.func12, by kernel_rfl⟩ (.cons ⟨Try.func20, by kernel_rfl⟩ (.cons ⟨Try.func36, by kernel_rfl⟩ (.cons ⟨Try.func68, by kernel_rfl⟩ (.cons ⟨Try.func132, by kernel_rfl⟩ (.cons ⟨Try.func100, by kernel_rfl⟩ (.cons ⟨Try.func164, by kernel_rfl⟩ (.cons ⟨Try.func52, by kernel_rfl⟩ (.cons ⟨Try.func84, by kernel_rfl⟩ (.cons ⟨Try.func148, by kernel_rfl⟩ (.cons ⟨Try.func116, by kernel_rfl⟩ (.cons ⟨Try.func180, by kernel_rfl⟩ (.cons ⟨Try.func28, by kernel_rfl⟩ (.cons ⟨Try.func44, by kernel_rfl⟩ (.cons ⟨Try.func76, by kernel_rfl⟩ (.cons ⟨Try.func140, by kernel_rfl⟩ (.cons ⟨Try.func108, by kernel_rfl⟩ (.cons ⟨Try.func172, by kernel_rfl⟩ (.cons ⟨Try.func60, by kernel_rfl⟩ (.cons ⟨Try.func92, by kernel_rfl⟩ (.cons ⟨Try.func156, by kernel_rfl⟩ (.cons ⟨Try.func124, by kernel_rfl⟩ (.cons ⟨Try.func188, by kernel_rfl⟩ (.cons ⟨Try.func6, by kernel_rfl⟩ (.cons ⟨Try.func10, by kernel_rfl⟩ (.cons ⟨Try.func18, by kernel_rfl⟩ (.cons ⟨Try.func34, by kernel_rfl⟩ (.cons ⟨Try.func66, by kernel_rfl⟩ (.cons ⟨Try.func130, by kernel_rfl⟩ (.cons ⟨Try.func98, by kernel_rfl⟩ (.cons ⟨Try.func162, by kernel_rfl⟩ (.cons ⟨Try.func50, by kernel_rfl⟩ (.cons ⟨Try.func82, by kernel_rfl⟩ (.cons ⟨Try.func146, by kernel_rfl⟩ (.cons ⟨Try.func114, by kernel_rfl⟩ (.cons ⟨Try.func178, by kernel_rfl⟩ (.cons ⟨Try.func26, by kernel_rfl⟩ (.cons ⟨Try.func42, by kernel_rfl⟩ (.cons ⟨Try.func74, by kernel_rfl⟩ (.cons ⟨Try.func138, by kernel_rfl⟩ (.cons ⟨Try.func106, by kernel_rfl⟩ (.cons ⟨Try.func170, by kernel_rfl⟩ (.cons ⟨Try.func58, by kernel_rfl⟩ (.cons ⟨Try.func90, by kernel_rfl⟩ (.cons ⟨Try.func154, by kernel_rfl⟩ (.cons ⟨Try.func122, by kernel_rfl⟩ (.cons ⟨Try.func186, by kernel_rfl⟩ (.cons ⟨Try.func14, by kernel_rfl⟩ (.cons ⟨Try.func22, by kernel_rfl⟩ (.cons ⟨Try.func38, by kernel_rfl⟩ (.cons ⟨Try.func70, by kernel_rfl⟩ (.cons ⟨Try.func134, by kernel_rfl⟩ (.cons ⟨Try.func102, by kernel_rfl⟩ (.cons ⟨Try.func166, by kernel_rfl⟩ (.cons ⟨Try.func54, by kernel_rfl⟩ (.cons ⟨Try.func86, by kernel_rfl⟩ (.cons ⟨Try.func150, by kernel_rfl⟩ (.cons ⟨Try.func118, by kernel_rfl⟩ (.cons ⟨Try.func182, by kernel_rfl⟩ (.cons ⟨Try.func30, by kernel_rfl⟩ (.cons ⟨Try.func46, by kernel_rfl⟩ (.cons ⟨Try.func78, by kernel_rfl⟩ (.cons ⟨Try.func142, by kernel_rfl⟩ (.cons ⟨Try.func110, by kernel_rfl⟩ (.cons ⟨Try.func174, by kernel_rfl⟩ (.cons ⟨Try.func62, by kernel_rfl⟩ (.cons ⟨Try.func94, by kernel_rfl⟩ (.cons ⟨Try.func158, by kernel_rfl⟩ (.cons ⟨Try.func126, by kernel_rfl⟩ (.cons ⟨Try.func190, by kernel_rfl⟩ (.nil)))))))))))))))))))))))))))))))))))))))))))))))))))))))))))))))))))))))))))))))))))))))))))))))))))))))))))))))))))))))))))))))))))))))))))))))))))))))))))))))))))))))))))))))))))))))))))))))
noncomputable def ky7 : List KK := [.int .i64, .int .i64, .bool, .int .u8]
theorem ky7_ok : keysOf Try.prog 7 = some ky7 := by kernel_rfl
noncomputable def ky8 : List KK := [.int .i64, .int .i64, .bool, .int .u8]
theorem ky8_ok : keysOf Try.prog 8 = some ky8 := by kernel_rfl
noncomputable def ky64 : List KK := [.int .i64, .int .i64]
theorem ky64_ok : keysOf Try.prog 64 = some ky64 := by kernel_rfl
noncomputable def ky65 : List KK := [.int .i64, .int .i64]
theorem ky65_ok : keysOf Try.prog 65 = some ky65 := by kernel_rfl
noncomputable def ky66 : List KK := [.int .i64, .int .i64, .int .i64, .int .i64, .int .i64, .int .i64, .int .i64, .int .i64, .int .i64, .int .i64, .int .i64, .int .i64, .int .i64, .int .i64, .int .i64, .int .i64]
theorem ky66_ok : keysOf Try.prog 66 = some ky66 := by kernel_rfl
noncomputable def ky72 : List KK := [.string, .string]
theorem ky72_ok : keysOf Try.prog 72 = some ky72 := by kernel_rfl
noncomputable def ky73 : List KK := [.string, .string]
theorem ky73_ok : keysOf Try.prog 73 = some ky73 := by kernel_rfl
noncomputable def ky98 : List KK := [.int .i64, .string]
theorem ky98_ok : keysOf Try.prog 98 = some ky98 := by kernel_rfl
noncomputable def ky99 : List KK := [.int .i64, .string]
theorem ky99_ok : keysOf Try.prog 99 = some ky99 := by kernel_rfl
noncomputable def ky113 : List KK := [.int .i64, .int .i64, .int .i64, .int .i64, .int .i64, .int .i64, .int .i64, .int .i64]
theorem ky113_ok : keysOf Try.prog 113 = some ky113 := by kernel_rfl
noncomputable def ky114 : List KK := [.bool, .bool, .bool, .bool, .bool, .bool, .bool, .bool]
theorem ky114_ok : keysOf Try.prog 114 = some ky114 := by kernel_rfl
noncomputable def ky117 : List KK := [.int .i64, .int .i64, .int .i64, .bool]
theorem ky117_ok : keysOf Try.prog 117 = some ky117 := by kernel_rfl
noncomputable def ky118 : List KK := [.int .i64, .int .i64, .int .i64, .bool]
theorem ky118_ok : keysOf Try.prog 118 = some ky118 := by kernel_rfl
noncomputable def ky130 : List KK := [.string, .int .i64, .string]
theorem ky130_ok : keysOf Try.prog 130 = some ky130 := by kernel_rfl
noncomputable def ky131 : List KK := [.string, .int .i64, .string]
theorem ky131_ok : keysOf Try.prog 131 = some ky131 := by kernel_rfl
noncomputable def ky155 : List KK := [.int .i64, .string, .int .i64, .bool, .int .i64]
theorem ky155_ok : keysOf Try.prog 155 = some ky155 := by kernel_rfl
noncomputable def ky156 : List KK := [.int .i64, .string, .int .i64, .bool, .int .i64]
theorem ky156_ok : keysOf Try.prog 156 = some ky156 := by kernel_rfl
noncomputable def ky197 : List KK := [.int .i64, .int .i64, .int .i64]
theorem ky197_ok : keysOf Try.prog 197 = some ky197 := by kernel_rfl
noncomputable def ky217 : List KK := [.int .i64, .int .i64, .int .i64, .bool]
theorem ky217_ok : keysOf Try.prog 217 = some ky217 := by kernel_rfl
noncomputable def ky218 : List KK := [.int .i64, .int .i64, .int .i64, .bool]
theorem ky218_ok : keysOf Try.prog 218 = some ky218 := by kernel_rfl
noncomputable def kyT : Tr (List KK) := .node none (.node none (.node none (.node (some ky7) .leaf .leaf) (.node none (.node none (.node none (.node none (.node (some ky131) .leaf .leaf) .leaf) (.node (some ky99) .leaf .leaf)) .leaf) (.node none .leaf (.node none (.node none (.node (some ky155) .leaf .leaf) .leaf) .leaf)))) (.node none (.node none (.node none (.node none (.node (some ky65) .leaf .leaf) .leaf) (.node none .leaf (.node (some ky113) .leaf .leaf))) (.node none (.node none (.node (some ky73) .leaf .leaf) .leaf) (.node none (.node none .leaf (.node (some ky217) .leaf .leaf)) .leaf))) (.node none (.node none (.node none (.node none .leaf (.node (some ky197) .leaf .leaf)) .leaf) (.node none .leaf (.node (some ky117) .leaf .leaf))) .leaf))) (.node none (.node none (.node (some ky8) (.node none (.node none (.node (some ky64) .leaf .leaf) .leaf) .leaf) (.node none (.node none (.node (some ky72) .leaf .leaf) .leaf) .leaf)) (.node none .leaf (.node none .leaf (.node none (.node none (.node (some ky156) .leaf .leaf) .leaf) .leaf)))) (.node none (.node none (.node none (.node none (.node (some ky66) (.node (some ky130) .leaf .leaf) .leaf) (.node (some ky98) .leaf .leaf)) (.node none .leaf (.node (some ky114) .leaf .leaf))) (.node none .leaf (.node none (.node none .leaf (.node (some ky218) .leaf .leaf)) .leaf))) (.node none (.node none .leaf (.node none .leaf (.node (some ky118) .leaf .leaf))) .leaf)))
theorem kyT_list : kyT.toL = [(7, ky7), (131, ky131), (99, ky99), (155, ky155), (65, ky65), (113, ky113), (73, ky73), (217, ky217), (197, ky197), (117, ky117), (8, ky8), (64, ky64), (72, ky72), (156, ky156), (66, ky66), (130, ky130), (98, ky98), (114, ky114), (218, ky218), (118, ky118)] := by kernel_rfl
theorem kyT_ok : ∀ t ks, kyT.get t = some ks → KeyOk Try.prog t ks := by
 refine Tr.all_get (p := fun t ks => KeyOk Try.prog t ks) ?_
 rw [kyT_list]
 exact .cons (keysOf_ok ky7_ok) (.cons (keysOf_ok ky131_ok) (.cons (keysOf_ok ky99_ok) (.cons (keysOf_ok ky155_ok) (.cons (keysOf_ok ky65_ok) (.cons (keysOf_ok ky113_ok) (.cons (keysOf_ok ky73_ok) (.cons (keysOf_ok ky217_ok) (.cons (keysOf_ok ky197_ok) (.cons (keysOf_ok ky117_ok) (.cons (keysOf_ok ky8_ok) (.cons (keysOf_ok ky64_ok) (.cons (keysOf_ok ky72_ok) (.cons (keysOf_ok ky156_ok) (.cons (keysOf_ok ky66_ok) (.cons (keysOf_ok ky130_ok) (.cons (keysOf_ok ky98_ok) (.cons (keysOf_ok ky114_ok) (.cons (keysOf_ok ky218_ok) (.cons (keysOf_ok ky118_ok) (.nil))))))))))))))))))))
noncomputable def CX (σ : Sig) (kn : List (BExp × Bool)) (hkn : Known σ kn) : Ctx Try.prog := ⟨tiT.get, tiT_ok, kyT.get, kyT_ok, σ, kn, hkn⟩
theorem mixed : Try.prog.follows .mixedOrders = true := by kernel_rfl
noncomputable abbrev CZ (σ : Sig) : Ctx Try.prog := CX σ [] known_nil
def jr (j : Nat → AV) : Nat → Nat → List AV
  | _, 0 => []
  | a, n + 1 => j a :: jr j (a + 1) n
noncomputable abbrev fQ (f : Func) (σ : Sig) (K : AV → Hp → Prop) := fnQ (CZ σ).ti f.results.toList K
theorem gwp {σ : Sig} (g : Nat) {f : Nat} {fn : Func} {c : Code} {xs : List AV} {H : Hp} {K : AV → Hp → Prop} (hf : fnT.get f = some fn) (hb : fn.body = some c) (h : wp (CZ σ) g c (xs ++ List.replicate (fn.ntmps - xs.length) (.lit undef)) H (fnQ (CZ σ).ti fn.results.toList K)) : ∃ r H', Good Try.prog σ f xs H r H' ∧ K r H' :=
  good_of_wp (CZ σ) mixed g (fnT_ok f fn hf).1 hb (fnT_ok f fn hf).2 h
theorem lrd {σ : Sig} {g : Nat} {c : Code} {T : List AV} {H : Hp} {Q : Exit → List AV → Hp → Prop} (h : wp (CZ σ) g c T H (nx Q fun T1 H1 => ∀ js, LoopP (CZ σ) c (maskA g js 0 T1) H1 Q)) : LoopP (CZ σ) c T H Q :=
  LoopP.round (CZ σ) mixed h
end Go.Proofs.Ytaoegkmfgfefgaa.Ev
namespace Go.Proofs.Ytaoegkmfgfefgaa.Ev
set_option maxRecDepth 100000
set_option maxHeartbeats 4000000
abbrev n_law22_ShareSame : Nat := 9
abbrev n_law10_Dear : Nat := 13
abbrev n_law9_Big : Nat := 14
abbrev n_ref9_New : Nat := 15
abbrev n_reval_Needs : Nat := 18
abbrev n_ref9_Tree_Selector : Nat := 19
abbrev n_law12_Dear : Nat := 20
abbrev n_law22_alive : Nat := 30
abbrev n_law22_both : Nat := 31
abbrev n_ref9_NeedList : Nat := 32
abbrev n_share_May : Nat := 33
abbrev n_ref9_Tree_Winners : Nat := 35
abbrev n_law10_dear : Nat := 37
abbrev n_ref9_lowered : Nat := 38
abbrev n_ref9_Tree_is : Nat := 39
abbrev n_ref9_DeepSel : Nat := 41
abbrev n_ref9_Tree_selector : Nat := 42
abbrev n_reval_kept_api_Selector : Nat := 44
abbrev n_dom_New : Nat := 51
abbrev n_ref9_Needs : Nat := 52
abbrev n_dom_Tree_Parent : Nat := 53
abbrev n_dom_Tree_Node : Nat := 54
abbrev n_slices_Equal_string_string : Nat := 55
abbrev n_slices_Equal_bool_bool : Nat := 56
abbrev n_reval_Bits : Nat := 57
abbrev n_ref9_SameBits : Nat := 58
abbrev n_ref9_Tree_Best : Nat := 60
abbrev n_ref1_Lower : Nat := 64
abbrev n_ref9_Deep : Nat := 65
abbrev n_ref9_Tree_front : Nat := 66
abbrev n_ref9_has : Nat := 70
abbrev n_dom_Tree_put : Nat := 71
abbrev n_dom_copied : Nat := 72
abbrev n_dom_Tree_at : Nat := 73
abbrev n_match_Selector : Nat := 74
abbrev n_ref9_Weight : Nat := 75
abbrev n_ref9_Tree_compound : Nat := 88
abbrev n_ref9_Tree_hangs : Nat := 89
abbrev n_dom_lowered : Nat := 101
abbrev n_slices_Clone_string_string : Nat := 102
abbrev n_slices_Clone_api_Pair_api_Pair : Nat := 103
abbrev n_match_Any : Nat := 104
abbrev n_ref9_weight : Nat := 105
abbrev n_ref9_attr : Nat := 117
abbrev n_ref9_Tree_pseudo : Nat := 118
abbrev n_ref9_Tree_Parent : Nat := 119
abbrev n_ref9_Tree_Before : Nat := 120
abbrev n_text_Lower : Nat := 127
abbrev n_match_is : Nat := 128
abbrev n_match_begin : Nat := 129
abbrev n_match_may : Nat := 130
abbrev n_match_asked_any : Nat := 131
abbrev n_match_asked_add : Nat := 132
abbrev n_ref9_cut : Nat := 133
abbrev n_ref9_words : Nat := 139
abbrev n_ref9_begins : Nat := 140
abbrev n_ref9_ends : Nat := 141
abbrev n_ref9_in : Nat := 142
abbrev n_ref9_Tree_Place : Nat := 143
abbrev n_ref9_Tree_last : Nat := 144
abbrev n_ref9_Tree_Children : Nat := 145
abbrev n_ref9_nth : Nat := 146
abbrev n_ref9_Tree_any : Nat := 147
abbrev n_dom_Tree_Len : Nat := 149
abbrev n_match_mayCompound : Nat := 150
abbrev n_match_asked_is : Nat := 151
abbrev n_ref9_blank : Nat := 155
abbrev n_ref9_far : Nat := 156
abbrev n_match_asked_once : Nat := 157
abbrev n_match_asked_is_1 : Nat := 158
abbrev n_match_asked_compound : Nat := 159
abbrev n_match_asked_ahead : Nat := 160
abbrev n_match_asked_plain : Nat := 164
abbrev n_match_asked_pseudo : Nat := 165
abbrev n_match_asked_stands : Nat := 166
abbrev n_match_asked_ahead_1 : Nat := 167
abbrev n_dom_Tree_View : Nat := 168
abbrev n_match_has : Nat := 169
abbrev n_match_attr : Nat := 170
abbrev n_dom_Tree_Place : Nat := 171
abbrev n_match_asked_last : Nat := 172
abbrev n_dom_Tree_Child : Nat := 173
abbrev n_match_nth : Nat := 174
abbrev n_dom_Tree_Before : Nat := 175
abbrev n_match_so : Nat := 176
abbrev n_match_word : Nat := 177
abbrev n_strings_HasPrefix : Nat := 178
abbrev n_strings_HasSuffix : Nat := 179
abbrev n_strings_Contains : Nat := 180
abbrev n_match_words : Nat := 181
abbrev n_internal_stringslite_HasPrefix : Nat := 182
abbrev n_internal_stringslite_HasSuffix : Nat := 183
abbrev n_match_words_1 : Nat := 185
abbrev n_match_white : Nat := 186
abbrev T_int : Nat := 3
abbrev T_bool : Nat := 4
abbrev T_string : Nat := 9
abbrev T_sl_api_Node : Nat := 22
abbrev T_sl_api_Selector : Nat := 23
abbrev T_sl_string : Nat := 30
abbrev T_sl_api_Pair : Nat := 31
abbrev T_api_Node : Nat := 33
abbrev T_sl_api_Part : Nat := 37
abbrev T_api_Selector : Nat := 39
abbrev T_sl_api_Rule : Nat := 42
abbrev T_api_Value : Nat := 65
abbrev T_api_Pair : Nat := 73
abbrev T_sl_api_Attr : Nat := 79
abbrev T_sl_api_Pseudo : Nat := 80
abbrev T_api_Compound : Nat := 82
abbrev T_api_Part : Nat := 84
abbrev T_sl_api_Set : Nat := 87
abbrev T_api_Rule : Nat := 89
abbrev T_api_Set : Nat := 118
abbrev T_api_Pseudo : Nat := 126
abbrev T_api_Attr : Nat := 131
theorem T_int_is : ∃ i, tiT.get T_int = some i ∧ i.d = .int .i64 ∧ i.size = 1 := ⟨_, (by kernel_rfl : tiT.get T_int = some ti3), by kernel_rfl, by kernel_rfl⟩
theorem T_bool_is : ∃ i, tiT.get T_bool = some i ∧ i.d = .bool ∧ i.size = 1 := ⟨_, (by kernel_rfl : tiT.get T_bool = some ti4), by kernel_rfl, by kernel_rfl⟩
theorem T_string_is : ∃ i, tiT.get T_string = some i ∧ i.d = .string ∧ i.size = 1 := ⟨_, (by kernel_rfl : tiT.get T_string = some ti9), by kernel_rfl, by kernel_rfl⟩
theorem T_sl_api_Node_is : ∃ i, tiT.get T_sl_api_Node = some i ∧ i.d = .slice T_api_Node ∧ i.size = 1 := ⟨_, (by kernel_rfl : tiT.get T_sl_api_Node = some ti22), by kernel_rfl, by kernel_rfl⟩
theorem T_sl_api_Selector_is : ∃ i, tiT.get T_sl_api_Selector = some i ∧ i.d = .slice T_api_Selector ∧ i.size = 1 := ⟨_, (by kernel_rfl : tiT.get T_sl_api_Selector = some ti23), by kernel_rfl, by kernel_rfl⟩
theorem T_sl_string_is : ∃ i, tiT.get T_sl_string = some i ∧ i.d = .slice T_string ∧ i.size = 1 := ⟨_, (by kernel_rfl : tiT.get T_sl_string = some ti30), by kernel_rfl, by kernel_rfl⟩
theorem T_sl_api_Pair_is : ∃ i, tiT.get T_sl_api_Pair = some i ∧ i.d = .slice T_api_Pair ∧ i.size = 1 := ⟨_, (by kernel_rfl : tiT.get T_sl_api_Pair = some ti31), by kernel_rfl, by kernel_rfl⟩
theorem T_api_Node_is : ∃ i, tiT.get T_api_Node = some i ∧ i.d = .struct [(0, T_int), (1, T_string), (2, T_string), (3, T_sl_string), (4, T_sl_api_Pair)] ∧ i.size = 5 := ⟨_, (by kernel_rfl : tiT.get T_api_Node = some ti33), by kernel_rfl, by kernel_rfl⟩
theorem T_sl_api_Part_is : ∃ i, tiT.get T_sl_api_Part = some i ∧ i.d = .slice T_api_Part ∧ i.size = 1 := ⟨_, (by kernel_rfl : tiT.get T_sl_api_Part = some ti37), by kernel_rfl, by kernel_rfl⟩
theorem T_api_Selector_is : ∃ i, tiT.get T_api_Selector = some i ∧ i.d = .struct [(0, T_sl_api_Part)] ∧ i.size = 1 := ⟨_, (by kernel_rfl : tiT.get T_api_Selector = some ti39), by kernel_rfl, by kernel_rfl⟩
theorem T_sl_api_Rule_is : ∃ i, tiT.get T_sl_api_Rule = some i ∧ i.d = .slice T_api_Rule ∧ i.size = 1 := ⟨_, (by kernel_rfl : tiT.get T_sl_api_Rule = some ti42), by kernel_rfl, by kernel_rfl⟩
theorem T_api_Value_is : ∃ i, tiT.get T_api_Value = some i ∧ i.d = .struct [(0, T_int), (1, T_int)] ∧ i.size = 2 := ⟨_, (by kernel_rfl : tiT.get T_api_Value = some ti65), by kernel_rfl, by kernel_rfl⟩
theorem T_api_Pair_is : ∃ i, tiT.get T_api_Pair = some i ∧ i.d = .struct [(0, T_string), (1, T_string)] ∧ i.size = 2 := ⟨_, (by kernel_rfl : tiT.get T_api_Pair = some ti73), by kernel_rfl, by kernel_rfl⟩
theorem T_sl_api_Attr_is : ∃ i, tiT.get T_sl_api_Attr = some i ∧ i.d = .slice T_api_Attr ∧ i.size = 1 := ⟨_, (by kernel_rfl : tiT.get T_sl_api_Attr = some ti79), by kernel_rfl, by kernel_rfl⟩
theorem T_sl_api_Pseudo_is : ∃ i, tiT.get T_sl_api_Pseudo = some i ∧ i.d = .slice T_api_Pseudo ∧ i.size = 1 := ⟨_, (by kernel_rfl : tiT.get T_sl_api_Pseudo = some ti80), by kernel_rfl, by kernel_rfl⟩
theorem T_api_Compound_is : ∃ i, tiT.get T_api_Compound = some i ∧ i.d = .struct [(0, T_string), (1, T_sl_string), (2, T_sl_string), (3, T_sl_api_Attr), (4, T_sl_api_Pseudo)] ∧ i.size = 5 := ⟨_, (by kernel_rfl : tiT.get T_api_Compound = some ti82), by kernel_rfl, by kernel_rfl⟩
theorem T_api_Part_is : ∃ i, tiT.get T_api_Part = some i ∧ i.d = .struct [(0, T_int), (1, T_api_Compound)] ∧ i.size = 6 := ⟨_, (by kernel_rfl : tiT.get T_api_Part = some ti84), by kernel_rfl, by kernel_rfl⟩
theorem T_sl_api_Set_is : ∃ i, tiT.get T_sl_api_Set = some i ∧ i.d = .slice T_api_Set ∧ i.size = 1 := ⟨_, (by kernel_rfl : tiT.get T_sl_api_Set = some ti87), by kernel_rfl, by kernel_rfl⟩
theorem T_api_Rule_is : ∃ i, tiT.get T_api_Rule = some i ∧ i.d = .struct [(0, T_sl_api_Selector), (1, T_sl_api_Set)] ∧ i.size = 2 := ⟨_, (by kernel_rfl : tiT.get T_api_Rule = some ti89), by kernel_rfl, by kernel_rfl⟩
theorem T_api_Set_is : ∃ i, tiT.get T_api_Set = some i ∧ i.d = .struct [(0, T_int), (1, T_api_Value), (3, T_bool)] ∧ i.size = 4 := ⟨_, (by kernel_rfl : tiT.get T_api_Set = some ti118), by kernel_rfl, by kernel_rfl⟩
theorem T_api_Pseudo_is : ∃ i, tiT.get T_api_Pseudo = some i ∧ i.d = .struct [(0, T_int), (1, T_int), (2, T_int), (3, T_sl_api_Selector)] ∧ i.size = 4 := ⟨_, (by kernel_rfl : tiT.get T_api_Pseudo = some ti126), by kernel_rfl, by kernel_rfl⟩
theorem T_api_Attr_is : ∃ i, tiT.get T_api_Attr = some i ∧ i.d = .struct [(0, T_string), (1, T_int), (2, T_string)] ∧ i.size = 3 := ⟨_, (by kernel_rfl : tiT.get T_api_Attr = some ti131), by kernel_rfl, by kernel_rfl⟩
end Go.Proofs.Ytaoegkmfgfefgaa.Ev
namespace Go.Proofs.Ytaoegkmfgfefgaa.Ev
set_option maxRecDepth 100000
set_option maxHeartbeats 4000000
set_option linter.unusedVariables false
variable {σ : Sig} {K : AV → Hp → Prop} {H : Hp}
noncomputable def law22_ShareSame.code : Code := bodyOf Try.f9
noncomputable def law22_ShareSame.L0 (σ : Sig) (K : AV → Hp → Prop) (y0 y1 y7 y8 y10 y11 y12 : AV) (H : Hp) : Prop := ∀ j : Nat → AV, LoopP (CZ σ) (lB (bB (sR (sL (sR (sR (sR (sR (sR (sR law22_ShareSame.code)))))))))) ([y0, y1, j 2, j 3, j 4, j 5, j 6, y7, y8, j 9, y10, y11, y12] ++ jr j 13 50) H (fun e T G => (nx (fQ Try.f9 σ K) fun T G => wp (CZ σ) 7555 (sR (sR (sR (sR (sR (sR (sR law22_ShareSame.code))))))) T G (fQ Try.f9 σ K)) (unblock 0 e) T G)
noncomputable def law22_ShareSame.L1 (σ : Sig) (K : AV → Hp → Prop) (y0 y1 y7 y8 y10 y11 y12 : AV) (H : Hp) : Prop := ∀ j : Nat → AV, LoopP (CZ σ) (lB (bB (sR (bB (sL (sR (lB (bB (sR (sL (sR (sR (sR (sR (sR (sR law22_ShareSame.code)))))))))))))))) ([y0, y1, j 2, j 3, j 4, j 5, j 6, y7, y8, j 9, y10, y11, y12] ++ jr j 13 50) H (fun e T G => (fun e T G => (nx (nx (fun e T G => (nx (fQ Try.f9 σ K) fun T G => wp (CZ σ) 7555 (sR (sR (sR (sR (sR (sR (sR law22_ShareSame.code))))))) T G (fQ Try.f9 σ K)) (unblock 0 e) T G) fun T G => ∀ j, LoopP (CZ σ) (lB (bB (sR (sL (sR (sR (sR (sR (sR (sR law22_ShareSame.code)))))))))) (maskA 7555 j 0 T) G (fun e T G => (nx (fQ Try.f9 σ K) fun T G => wp (CZ σ) 7555 (sR (sR (sR (sR (sR (sR (sR law22_ShareSame.code))))))) T G (fQ Try.f9 σ K)) (unblock 0 e) T G)) fun T G => wp (CZ σ) 7555 (sR (sR (lB (bB (sR (sL (sR (sR (sR (sR (sR (sR law22_ShareSame.code)))))))))))) T G (nx (fun e T G => (nx (fQ Try.f9 σ K) fun T G => wp (CZ σ) 7555 (sR (sR (sR (sR (sR (sR (sR law22_ShareSame.code))))))) T G (fQ Try.f9 σ K)) (unblock 0 e) T G) fun T G => ∀ j, LoopP (CZ σ) (lB (bB (sR (sL (sR (sR (sR (sR (sR (sR law22_ShareSame.code)))))))))) (maskA 7555 j 0 T) G (fun e T G => (nx (fQ Try.f9 σ K) fun T G => wp (CZ σ) 7555 (sR (sR (sR (sR (sR (sR (sR law22_ShareSame.code))))))) T G (fQ Try.f9 σ K)) (unblock 0 e) T G))) (unblock 1 e) T G) (unblock 2 e) T G)
theorem law22_ShareSame.L0_step {y0 y1 y7 y8 y10 y11 y12 : AV} (h : bnd (lenSl y0) fun x1 => bnd (binR .lss y11 x1) fun x2 => ifB x2 (law22_ShareSame.L1 σ K y0 y1 y7 y8 y10 y11 (I 0) H) (K (Bo true) H)) : law22_ShareSame.L0 σ K y0 y1 y7 y8 y10 y11 y12 H :=
 fun j => lrd (g := 7555) (Eq.mpr (by kernel_rfl) h)
theorem law22_ShareSame.L1_step {y0 y1 y7 y8 y10 y11 y12 : AV} (h : bnd (binR .lss y12 y11) fun x1 => ifB x1 (callK Try.prog σ n_share_May [y7, y11, y12, y10] H fun x2 H3 => ifB x2 (callK Try.prog σ n_ref9_Tree_Winners [y8, y11, y1] H3 fun x4 H5 => callK Try.prog σ n_ref9_Tree_Winners [y8, y12, y1] H5 fun x6 H7 => bnd (eqAggR (List.replicate 16 (.int .i64)) .neq x4 x6) fun x8 => ifB x8 (K (Bo false) H7) (bnd (binR .add y12 (I 1)) fun x9 => law22_ShareSame.L1 σ K y0 y1 y7 y8 y10 y11 x9 H7)) (bnd (binR .add y12 (I 1)) fun x10 => law22_ShareSame.L1 σ K y0 y1 y7 y8 y10 y11 x10 H3)) (bnd (binR .add y11 (I 1)) fun x11 => law22_ShareSame.L0 σ K y0 y1 y7 y8 y10 x11 y12 H)) : law22_ShareSame.L1 σ K y0 y1 y7 y8 y10 y11 y12 H :=
 fun j => lrd (g := 7555) (Eq.mpr (by kernel_rfl) h)
theorem law22_ShareSame.run {a0 a1 : AV} (h : callK Try.prog σ n_law22_alive [] H fun x1 H2 => callK Try.prog σ n_law12_Dear [a1] H2 fun x3 H4 => callK Try.prog σ n_law22_both [a0] H4 fun x5 H6 => bnd (exR x5 0) fun x7 => bnd (exR x5 1) fun x8 => bnd (exR x5 2) fun x9 => bnd (unR .not x1) fun x10 => ifB x10 (K x1 H6) (ifB x3 (K x1 H6) (bnd (unR .not x9) fun x11 => ifB x11 (K x1 H6) (callK Try.prog σ n_ref9_NeedList [a1] H6 fun x12 H13 => law22_ShareSame.L0 σ K a0 a1 x7 x8 x12 (I 0) (.lit undef) H13)))) : ∃ r H1, Good Try.prog σ n_law22_ShareSame [a0, a1] H r H1 ∧ K r H1 :=
 gwp 7555 (fn := Try.f9) (f := n_law22_ShareSame) (c := law22_ShareSame.code) (by kernel_rfl) (by kernel_rfl) (Eq.mpr (by kernel_rfl) h)
noncomputable def law10_Dear.code : Code := bodyOf Try.f13
theorem law10_Dear.run {a0 : AV} (h : callK Try.prog σ n_law10_dear [a0, (I 0)] H fun x1 H2 => bnd (binR .gtr x1 (I 40)) fun x3 => K x3 H2) : ∃ r H1, Good Try.prog σ n_law10_Dear [a0] H r H1 ∧ K r H1 :=
 gwp 0 (fn := Try.f13) (f := n_law10_Dear) (c := law10_Dear.code) (by kernel_rfl) (by kernel_rfl) (Eq.mpr (by kernel_rfl) h)
noncomputable def law9_Big.code : Code := bodyOf Try.f14
noncomputable def law9_Big.L0 (σ : Sig) (K : AV → Hp → Prop) (y0 y3 y4 y5 : AV) (H : Hp) : Prop := ∀ j : Nat → AV, LoopP (CZ σ) (lB (bB (sR (sL (sR law9_Big.code))))) ([y0, j 1, j 2, y3, y4, y5] ++ jr j 6 111) H (fun e T G => (nx (fQ Try.f14 σ K) fun T G => wp (CZ σ) 57 (sR (sR law9_Big.code)) T G (fQ Try.f14 σ K)) (unblock 0 e) T G)
noncomputable def law9_Big.L1 (σ : Sig) (K : AV → Hp → Prop) (y0 y3 y4 y5 : AV) (H : Hp) : Prop := ∀ j : Nat → AV, LoopP (CZ σ) (lB (bB (sR (sL (sR (bB (sL (sR (lB (bB (sR (sL (sR law9_Big.code))))))))))))) ([y0, j 1, j 2, y3, y4, y5] ++ jr j 6 111) H (fun e T G => (nx (fun e T G => (nx (nx (fun e T G => (nx (fQ Try.f14 σ K) fun T G => wp (CZ σ) 57 (sR (sR law9_Big.code)) T G (fQ Try.f14 σ K)) (unblock 0 e) T G) fun T G => ∀ j, LoopP (CZ σ) (lB (bB (sR (sL (sR law9_Big.code))))) (maskA 57 j 0 T) G (fun e T G => (nx (fQ Try.f14 σ K) fun T G => wp (CZ σ) 57 (sR (sR law9_Big.code)) T G (fQ Try.f14 σ K)) (unblock 0 e) T G)) fun T G => wp (CZ σ) 57 (sR (sR (lB (bB (sR (sL (sR law9_Big.code))))))) T G (nx (fun e T G => (nx (fQ Try.f14 σ K) fun T G => wp (CZ σ) 57 (sR (sR law9_Big.code)) T G (fQ Try.f14 σ K)) (unblock 0 e) T G) fun T G => ∀ j, LoopP (CZ σ) (lB (bB (sR (sL (sR law9_Big.code))))) (maskA 57 j 0 T) G (fun e T G => (nx (fQ Try.f14 σ K) fun T G => wp (CZ σ) 57 (sR (sR law9_Big.code)) T G (fQ Try.f14 σ K)) (unblock 0 e) T G))) (unblock 1 e) T G) fun T G => wp (CZ σ) 57 (sR (sR (bB (sL (sR (lB (bB (sR (sL (sR law9_Big.code)))))))))) T G (fun e T G => (nx (nx (fun e T G => (nx (fQ Try.f14 σ K) fun T G => wp (CZ σ) 57 (sR (sR law9_Big.code)) T G (fQ Try.f14 σ K)) (unblock 0 e) T G) fun T G => ∀ j, LoopP (CZ σ) (lB (bB (sR (sL (sR law9_Big.code))))) (maskA 57 j 0 T) G (fun e T G => (nx (fQ Try.f14 σ K) fun T G => wp (CZ σ) 57 (sR (sR law9_Big.code)) T G (fQ Try.f14 σ K)) (unblock 0 e) T G)) fun T G => wp (CZ σ) 57 (sR (sR (lB (bB (sR (sL (sR law9_Big.code))))))) T G (nx (fun e T G => (nx (fQ Try.f14 σ K) fun T G => wp (CZ σ) 57 (sR (sR law9_Big.code)) T G (fQ Try.f14 σ K)) (unblock 0 e) T G) fun T G => ∀ j, LoopP (CZ σ) (lB (bB (sR (sL (sR law9_Big.code))))) (maskA 57 j 0 T) G (fun e T G => (nx (fQ Try.f14 σ K) fun T G => wp (CZ σ) 57 (sR (sR law9_Big.code)) T G (fQ Try.f14 σ K)) (unblock 0 e) T G))) (unblock 1 e) T G)) (unblock 2 e) T G)
noncomputable def law9_Big.L2 (σ : Sig) (K : AV → Hp → Prop) (y0 y3 y4 y5 : AV) (H : Hp) : Prop := ∀ j : Nat → AV, LoopP (CZ σ) (lB (bB (sR (sR (sR (bB (sL (sR (lB (bB (sR (sL (sR law9_Big.code))))))))))))) ([y0, j 1, j 2, y3, y4, y5] ++ jr j 6 111) H (fun e T G => (fun e T G => (nx (nx (fun e T G => (nx (fQ Try.f14 σ K) fun T G => wp (CZ σ) 57 (sR (sR law9_Big.code)) T G (fQ Try.f14 σ K)) (unblock 0 e) T G) fun T G => ∀ j, LoopP (CZ σ) (lB (bB (sR (sL (sR law9_Big.code))))) (maskA 57 j 0 T) G (fun e T G => (nx (fQ Try.f14 σ K) fun T G => wp (CZ σ) 57 (sR (sR law9_Big.code)) T G (fQ Try.f14 σ K)) (unblock 0 e) T G)) fun T G => wp (CZ σ) 57 (sR (sR (lB (bB (sR (sL (sR law9_Big.code))))))) T G (nx (fun e T G => (nx (fQ Try.f14 σ K) fun T G => wp (CZ σ) 57 (sR (sR law9_Big.code)) T G (fQ Try.f14 σ K)) (unblock 0 e) T G) fun T G => ∀ j, LoopP (CZ σ) (lB (bB (sR (sL (sR law9_Big.code))))) (maskA 57 j 0 T) G (fun e T G => (nx (fQ Try.f14 σ K) fun T G => wp (CZ σ) 57 (sR (sR law9_Big.code)) T G (fQ Try.f14 σ K)) (unblock 0 e) T G))) (unblock 1 e) T G) (unblock 4 e) T G)
theorem law9_Big.L0_step {y0 y3 y4 y5 : AV} (h : bnd (lenSl y0) fun x1 => bnd (binR .lss y3 x1) fun x2 => ifB x2 (bnd (binR .lss y3 (I 100)) fun x3 => ifB x3 (bnd (ixaSl 5 y0 y3) fun x4 => bnd (shiftA x4 3) fun x5 => bnd (ldA false 1 H x5) fun x6 => bnd (lenSl x6) fun x7 => bnd (binR .gtr x7 (I 8)) fun x8 => ifB x8 (K (Bo true) H) (bnd (ixaSl 5 y0 y3) fun x9 => bnd (shiftA x9 4) fun x10 => bnd (ldA false 1 H x10) fun x11 => bnd (lenSl x11) fun x12 => bnd (binR .gtr x12 (I 8)) fun x13 => ifB x13 (K (Bo true) H) (bnd (ixaSl 5 y0 y3) fun x14 => bnd (shiftA x14 1) fun x15 => bnd (ldA false 1 H x15) fun x16 => bnd (lenStr x16) fun x17 => bnd (binR .gtr x17 (I 60)) fun x18 => ifB x18 (K (Bo true) H) (bnd (ixaSl 5 y0 y3) fun x19 => bnd (shiftA x19 2) fun x20 => bnd (ldA false 1 H x20) fun x21 => bnd (lenStr x21) fun x22 => bnd (binR .gtr x22 (I 60)) fun x23 => ifB x23 (K (Bo true) H) (law9_Big.L1 σ K y0 y3 (I 0) y5 H))))) (bnd (lenSl y0) fun x24 => bnd (binR .gtr x24 (I 40)) fun x25 => ifB x25 (bnd (lenSl y0) fun x26 => bnd (binR .leq x26 (I 4096)) fun x27 => ifB x27 (K (Bo true) H) (bnd (lenSl y0) fun x28 => bnd (binR .gtr x28 (I 4100)) fun x29 => K x29 H)) (bnd (lenSl y0) fun x30 => bnd (binR .gtr x30 (I 4100)) fun x31 => K x31 H))) (bnd (lenSl y0) fun x32 => bnd (binR .gtr x32 (I 40)) fun x33 => ifB x33 (bnd (lenSl y0) fun x34 => bnd (binR .leq x34 (I 4096)) fun x35 => ifB x35 (K (Bo true) H) (bnd (lenSl y0) fun x36 => bnd (binR .gtr x36 (I 4100)) fun x37 => K x37 H)) (bnd (lenSl y0) fun x38 => bnd (binR .gtr x38 (I 4100)) fun x39 => K x39 H))) : law9_Big.L0 σ K y0 y3 y4 y5 H :=
 fun j => lrd (g := 57) (Eq.mpr (by kernel_rfl) h)
theorem law9_Big.L1_step {y0 y3 y4 y5 : AV} (h : bnd (ixaSl 5 y0 y3) fun x1 => bnd (shiftA x1 3) fun x2 => bnd (ldA false 1 H x2) fun x3 => bnd (lenSl x3) fun x4 => bnd (binR .lss y4 x4) fun x5 => ifB x5 (bnd (ixaSl 5 y0 y3) fun x6 => bnd (shiftA x6 3) fun x7 => bnd (ldA false 1 H x7) fun x8 => bnd (ixaSl 1 x8 y4) fun x9 => bnd (ldA false 1 H x9) fun x10 => bnd (lenStr x10) fun x11 => bnd (binR .gtr x11 (I 60)) fun x12 => ifB x12 (K (Bo true) H) (bnd (binR .add y4 (I 1)) fun x13 => law9_Big.L1 σ K y0 y3 x13 y5 H)) (law9_Big.L2 σ K y0 y3 y4 (I 0) H)) : law9_Big.L1 σ K y0 y3 y4 y5 H :=
 fun j => lrd (g := 57) (Eq.mpr (by kernel_rfl) h)
theorem law9_Big.L2_step {y0 y3 y4 y5 : AV} (h : bnd (ixaSl 5 y0 y3) fun x1 => bnd (shiftA x1 4) fun x2 => bnd (ldA false 1 H x2) fun x3 => bnd (lenSl x3) fun x4 => bnd (binR .lss y5 x4) fun x5 => ifB x5 (bnd (ixaSl 5 y0 y3) fun x6 => bnd (shiftA x6 4) fun x7 => bnd (ldA false 1 H x7) fun x8 => bnd (ixaSl 2 x8 y5) fun x9 => bnd (shiftA x9 0) fun x10 => bnd (ldA false 1 H x10) fun x11 => bnd (lenStr x11) fun x12 => bnd (binR .gtr x12 (I 60)) fun x13 => ifB x13 (K (Bo true) H) (bnd (ixaSl 5 y0 y3) fun x14 => bnd (shiftA x14 4) fun x15 => bnd (ldA false 1 H x15) fun x16 => bnd (ixaSl 2 x16 y5) fun x17 => bnd (shiftA x17 1) fun x18 => bnd (ldA false 1 H x18) fun x19 => bnd (lenStr x19) fun x20 => bnd (binR .gtr x20 (I 100)) fun x21 => ifB x21 (K (Bo true) H) (bnd (binR .add y5 (I 1)) fun x22 => law9_Big.L2 σ K y0 y3 y4 x22 H))) (bnd (binR .add y3 (I 1)) fun x23 => law9_Big.L0 σ K y0 x23 y4 y5 H)) : law9_Big.L2 σ K y0 y3 y4 y5 H :=
 fun j => lrd (g := 57) (Eq.mpr (by kernel_rfl) h)
theorem law9_Big.run {a0 : AV} (h : law9_Big.L0 σ K a0 (I 0) (.lit undef) (.lit undef) H) : ∃ r H1, Good Try.prog σ n_law9_Big [a0] H r H1 ∧ K r H1 :=
 gwp 57 (fn := Try.f14) (f := n_law9_Big) (c := law9_Big.code) (by kernel_rfl) (by kernel_rfl) (Eq.mpr (by kernel_rfl) h)
noncomputable def ref9_New.code : Code := bodyOf Try.f15
noncomputable def ref9_New.L0 (σ : Sig) (K : AV → Hp → Prop) (y0 y4 y5 y7 : AV) (H : Hp) : Prop := ∀ j : Nat → AV, LoopP (CZ σ) (lB (bB (sR (sL (sR (sR (sR ref9_New.code))))))) ([y0, j 1, j 2, j 3, y4, y5, j 6, y7] ++ jr j 8 72) H (fun e T G => (nx (fQ Try.f15 σ K) fun T G => wp (CZ σ) 177 (sR (sR (sR (sR ref9_New.code)))) T G (fQ Try.f15 σ K)) (unblock 0 e) T G)
noncomputable def ref9_New.J1 (σ : Sig) (K : AV → Hp → Prop) (y0 y4 y5 y7 : AV) (H : Hp) : Prop := ∀ j : Nat → AV, wp (CZ σ) 177 (sR (sR (sR (sR (bB (sL (sR (lB (bB (sR (sL (sR (sR (sR ref9_New.code)))))))))))))) ([y0, j 1, j 2, j 3, y4, y5, j 6, y7] ++ jr j 8 72) H (fun e T G => (nx (nx (fun e T G => (nx (fQ Try.f15 σ K) fun T G => wp (CZ σ) 177 (sR (sR (sR (sR ref9_New.code)))) T G (fQ Try.f15 σ K)) (unblock 0 e) T G) fun T G => ∀ j, LoopP (CZ σ) (lB (bB (sR (sL (sR (sR (sR ref9_New.code))))))) (maskA 177 j 0 T) G (fun e T G => (nx (fQ Try.f15 σ K) fun T G => wp (CZ σ) 177 (sR (sR (sR (sR ref9_New.code)))) T G (fQ Try.f15 σ K)) (unblock 0 e) T G)) fun T G => wp (CZ σ) 177 (sR (sR (lB (bB (sR (sL (sR (sR (sR ref9_New.code))))))))) T G (nx (fun e T G => (nx (fQ Try.f15 σ K) fun T G => wp (CZ σ) 177 (sR (sR (sR (sR ref9_New.code)))) T G (fQ Try.f15 σ K)) (unblock 0 e) T G) fun T G => ∀ j, LoopP (CZ σ) (lB (bB (sR (sL (sR (sR (sR ref9_New.code))))))) (maskA 177 j 0 T) G (fun e T G => (nx (fQ Try.f15 σ K) fun T G => wp (CZ σ) 177 (sR (sR (sR (sR ref9_New.code)))) T G (fQ Try.f15 σ K)) (unblock 0 e) T G))) (unblock 1 e) T G)
theorem ref9_New.L0_step {y0 y4 y5 y7 : AV} (h : bnd (lenSl y0) fun x1 => bnd (binR .lss y5 x1) fun x2 => ifB x2 (bnd (ixaSl 5 y0 y5) fun x3 => bnd (shiftA x3 0) fun x4 => bnd (ldA false 1 H x4) fun x5 => bnd (binR .eql y5 (I 0)) fun x6 => ifB x6 (bnd (binR .neq x5 (I (-1))) fun x7 => ifB x7 (K (.tup [(.lit (.pointer none)), (I 10)]) H) (bnd (binR .gtr y5 (I 0)) fun x8 => ifB x8 (bnd (binR .lss x5 (I 0)) fun x9 => ifB x9 (K (.tup [(.lit (.pointer none)), (I 10)]) H) (bnd (binR .geq x5 y5) fun x10 => ifB x10 (K (.tup [(.lit (.pointer none)), (I 10)]) H) (bnd (binR .gtr y5 (I 0)) fun x11 => ifB x11 (bnd (nilR y4) fun x12 => bnd (shiftA x12 1) fun x13 => bnd (ldA false 1 H x13) fun x14 => bnd (ixaSl 1 x14 x5) fun x15 => bnd (ldA false 1 H x15) fun x16 => bnd (binR .add x16 (I 1)) fun x17 => ref9_New.J1 σ K y0 y4 y5 x17 H) (ref9_New.J1 σ K y0 y4 y5 (I 0) H)))) (bnd (binR .gtr y5 (I 0)) fun x18 => ifB x18 (bnd (nilR y4) fun x19 => bnd (shiftA x19 1) fun x20 => bnd (ldA false 1 H x20) fun x21 => bnd (ixaSl 1 x21 x5) fun x22 => bnd (ldA false 1 H x22) fun x23 => bnd (binR .add x23 (I 1)) fun x24 => ref9_New.J1 σ K y0 y4 y5 x24 H) (ref9_New.J1 σ K y0 y4 y5 (I 0) H)))) (bnd (binR .gtr y5 (I 0)) fun x25 => ifB x25 (bnd (binR .lss x5 (I 0)) fun x26 => ifB x26 (K (.tup [(.lit (.pointer none)), (I 10)]) H) (bnd (binR .geq x5 y5) fun x27 => ifB x27 (K (.tup [(.lit (.pointer none)), (I 10)]) H) (bnd (binR .gtr y5 (I 0)) fun x28 => ifB x28 (bnd (nilR y4) fun x29 => bnd (shiftA x29 1) fun x30 => bnd (ldA false 1 H x30) fun x31 => bnd (ixaSl 1 x31 x5) fun x32 => bnd (ldA false 1 H x32) fun x33 => bnd (binR .add x33 (I 1)) fun x34 => ref9_New.J1 σ K y0 y4 y5 x34 H) (ref9_New.J1 σ K y0 y4 y5 (I 0) H)))) (bnd (binR .gtr y5 (I 0)) fun x35 => ifB x35 (bnd (nilR y4) fun x36 => bnd (shiftA x36 1) fun x37 => bnd (ldA false 1 H x37) fun x38 => bnd (ixaSl 1 x38 x5) fun x39 => bnd (ldA false 1 H x39) fun x40 => bnd (binR .add x40 (I 1)) fun x41 => ref9_New.J1 σ K y0 y4 y5 x41 H) (ref9_New.J1 σ K y0 y4 y5 (I 0) H)))) (K (.tup [y4, (I 0)]) H)) : ref9_New.L0 σ K y0 y4 y5 y7 H :=
 fun j => lrd (g := 177) (Eq.mpr (by kernel_rfl) h)
theorem ref9_New.J1_step {y0 y4 y5 y7 : AV} (h : bnd (binR .gtr y7 (I 256)) fun x1 => ifB x1 (K (.tup [(.lit (.pointer none)), (I 11)]) H) (bnd (nilR y4) fun x2 => bnd (shiftA x2 0) fun x3 => bnd (ldA false 1 H x3) fun x4 => bnd (ixaSl 5 y0 y5) fun x5 => bnd (ldA true 5 H x5) fun x6 => callK Try.prog σ n_ref9_lowered [x6] H fun x7 H8 => kpK (x3, some 1) H H8 (bnd (bldSlR [.int .i64 0, .string ⟨#[]⟩, .string ⟨#[]⟩, .slice none 0 0, .slice none 0 0] 5 1 H8 [(0, 5, x7)]) fun p9 => kpK (x3, some 1) H8 p9.2 (bnd (appR false 5 88 p9.2 x4 p9.1) fun p10 => bnd (nilR y4) fun x11 => bnd (shiftA x11 0) fun x12 => bnd (stA 1 p10.2 x12 p10.1) fun H13 => bnd (nilR y4) fun x14 => bnd (shiftA x14 1) fun x15 => bnd (ldA false 1 H13 x15) fun x16 => bnd (bldSlR [.int .i64 0] 1 1 H13 [(0, 1, y7)]) fun p17 => bnd (appR false 1 8 p17.2 x16 p17.1) fun p18 => bnd (nilR y4) fun x19 => bnd (shiftA x19 1) fun x20 => bnd (stA 1 p18.2 x20 p18.1) fun H21 => bnd (binR .add y5 (I 1)) fun x22 => ref9_New.L0 σ K y0 y4 x22 y7 H21)))) : ref9_New.J1 σ K y0 y4 y5 y7 H :=
 fun j => Eq.mpr (by kernel_rfl) h
theorem ref9_New.run {a0 : AV} (h : bnd (lenSl a0) fun x1 => bnd (binR .gtr x1 (I 4096)) fun x2 => ifB x2 (K (.tup [(.lit (.pointer none)), (I 3)]) H) (bnd (bldR [.lit (.slice none 0 0), .lit (.slice none 0 0)] []) fun l3 => boxK (.agg l3) H fun x4 H5 => ref9_New.L0 σ K a0 x4 (I 0) (.lit undef) H5)) : ∃ r H1, Good Try.prog σ n_ref9_New [a0] H r H1 ∧ K r H1 :=
 gwp 177 (fn := Try.f15) (f := n_ref9_New) (c := ref9_New.code) (by kernel_rfl) (by kernel_rfl) (Eq.mpr (by kernel_rfl) h)
noncomputable def reval_Needs.code : Code := bodyOf Try.f18
noncomputable def reval_Needs.L0 (σ : Sig) (K : AV → Hp → Prop) (y7 y8 y9 : AV) (H : Hp) : Prop := ∀ j : Nat → AV, LoopP (CZ σ) (lB (bB (sR (sL (sR reval_Needs.code))))) ([j 0, j 1, j 2, j 3, j 4, j 5, j 6, y7, y8, y9] ++ jr j 10 26) H (fun e T G => (nx (fQ Try.f18 σ K) fun T G => wp (CZ σ) 896 (sR (sR reval_Needs.code)) T G (fQ Try.f18 σ K)) (unblock 0 e) T G)
theorem reval_Needs.L0_step {y7 y8 y9 : AV} (h : bnd (binR .lss y9 y8) fun x1 => ifB x1 (bnd (ixaSl 6 y7 y9) fun x2 => bnd (ldA true 6 H x2) fun x3 => allocK [I 0, .lit (.string ⟨#[]⟩), .lit (.slice none 0 0), .lit (.slice none 0 0), .lit (.slice none 0 0), .lit (.slice none 0 0)] H fun x4 H5 => bnd (stA 6 H5 x4 x3) fun H6 => bnd (shiftA x4 1) fun x7 => bnd (ldA true 5 H6 x7) fun x8 => allocK [.lit (.string ⟨#[]⟩), .lit (.slice none 0 0), .lit (.slice none 0 0), .lit (.slice none 0 0), .lit (.slice none 0 0)] H6 fun x9 H10 => bnd (stA 5 H10 x9 x8) fun H11 => bnd (shiftA x9 3) fun x12 => bnd (ldA false 1 H11 x12) fun x13 => bnd (lenSl x13) fun x14 => bnd (binR .gtr x14 (I 0)) fun x15 => ifB x15 (K (Bo true) H11) (bnd (shiftA x9 4) fun x16 => bnd (ldA false 1 H11 x16) fun x17 => bnd (lenSl x17) fun x18 => bnd (binR .gtr x18 (I 0)) fun x19 => ifB x19 (K (Bo true) H11) (bnd (shiftA x4 0) fun x20 => bnd (ldA false 1 H11 x20) fun x21 => bnd (binR .eql x21 (I 3)) fun x22 => ifB x22 (K (Bo true) H11) (bnd (shiftA x4 0) fun x23 => bnd (ldA false 1 H11 x23) fun x24 => bnd (binR .eql x24 (I 4)) fun x25 => ifB x25 (K (Bo true) H11) (bnd (binR .add y9 (I 1)) fun x26 => reval_Needs.L0 σ K y7 y8 x26 H11))))) (K (Bo false) H)) : reval_Needs.L0 σ K y7 y8 y9 H :=
 fun j => lrd (g := 896) (Eq.mpr (by kernel_rfl) h)
theorem reval_Needs.run {a0 : AV} (h : boxK a0 H fun x1 H2 => bnd (shiftA x1 0) fun x3 => bnd (ldA false 1 H2 x3) fun x4 => bnd (lenSl x4) fun x5 => reval_Needs.L0 σ K x4 x5 (I 0) H2) : ∃ r H1, Good Try.prog σ n_reval_Needs [a0] H r H1 ∧ K r H1 :=
 gwp 896 (fn := Try.f18) (f := n_reval_Needs) (c := reval_Needs.code) (by kernel_rfl) (by kernel_rfl) (Eq.mpr (by kernel_rfl) h)
noncomputable def ref9_Tree_Selector.code : Code := bodyOf Try.f19
theorem ref9_Tree_Selector.run {a0 a1 a2 : AV} (h : boxK a2 H fun x1 H2 => bnd (ldA true 1 H2 x1) fun x3 => callK Try.prog σ n_ref9_DeepSel [x3, (I 0)] H2 fun x4 H5 => bnd (unR .not x4) fun x6 => ifB x6 (bnd (ldA true 1 H5 x1) fun x7 => callK Try.prog σ n_ref9_Tree_selector [a0, a1, x7, (I 0)] H5 fun x8 H9 => K x8 H9) (K (Bo false) H5)) : ∃ r H1, Good Try.prog σ n_ref9_Tree_Selector [a0, a1, a2] H r H1 ∧ K r H1 :=
 gwp 0 (fn := Try.f19) (f := n_ref9_Tree_Selector) (c := ref9_Tree_Selector.code) (by kernel_rfl) (by kernel_rfl) (Eq.mpr (by kernel_rfl) h)
noncomputable def law12_Dear.code : Code := bodyOf Try.f20
noncomputable def law12_Dear.L0 (σ : Sig) (K : AV → Hp → Prop) (y0 y3 y4 y5 y6 : AV) (H : Hp) : Prop := ∀ j : Nat → AV, LoopP (CZ σ) (lB (bB (sR (sL (sR (sR (sR law12_Dear.code))))))) ([y0, j 1, j 2, y3, y4, y5, y6] ++ jr j 7 56) H (fun e T G => (nx (fQ Try.f20 σ K) fun T G => wp (CZ σ) 121 (sR (sR (sR (sR law12_Dear.code)))) T G (fQ Try.f20 σ K)) (unblock 0 e) T G)
noncomputable def law12_Dear.L1 (σ : Sig) (K : AV → Hp → Prop) (y0 y3 y4 y5 y6 : AV) (H : Hp) : Prop := ∀ j : Nat → AV, LoopP (CZ σ) (lB (bB (sR (sL (sR (sR (sR (sR (sR law12_Dear.code))))))))) ([y0, j 1, j 2, y3, y4, y5, y6] ++ jr j 7 56) H (fun e T G => (nx (fQ Try.f20 σ K) fun T G => wp (CZ σ) 121 (sR (sR (sR (sR (sR (sR law12_Dear.code)))))) T G (fQ Try.f20 σ K)) (unblock 2 e) T G)
theorem law12_Dear.L0_step {y0 y3 y4 y5 y6 : AV} (h : bnd (lenSl y0) fun x1 => bnd (binR .lss y4 x1) fun x2 => ifB x2 (bnd (ixaSl 2 y0 y4) fun x3 => bnd (shiftA x3 0) fun x4 => bnd (ldA false 1 H x4) fun x5 => bnd (lenSl x5) fun x6 => bnd (binR .gtr x6 (I 8)) fun x7 => ifB x7 (K (Bo true) H) (bnd (ixaSl 2 y0 y4) fun x8 => bnd (shiftA x8 1) fun x9 => bnd (ldA false 1 H x9) fun x10 => bnd (lenSl x10) fun x11 => bnd (binR .gtr x11 (I 30)) fun x12 => ifB x12 (K (Bo true) H) (bnd (ixaSl 2 y0 y4) fun x13 => bnd (shiftA x13 0) fun x14 => bnd (ldA false 1 H x14) fun x15 => bnd (appR false 1 24 H y3 x15) fun p16 => bnd (binR .add y4 (I 1)) fun x17 => law12_Dear.L0 σ K y0 p16.1 x17 y5 y6 p16.2))) (law12_Dear.L1 σ K y0 y3 y4 (I 0) (I 0) H)) : law12_Dear.L0 σ K y0 y3 y4 y5 y6 H :=
 fun j => lrd (g := 121) (Eq.mpr (by kernel_rfl) h)
theorem law12_Dear.L1_step {y0 y3 y4 y5 y6 : AV} (h : bnd (lenSl y3) fun x1 => bnd (binR .lss y6 x1) fun x2 => ifB x2 (bnd (binR .add y6 (I 1)) fun x3 => bnd (slSl 1 y3 (some y6) (some x3) none) fun x4 => callK Try.prog σ n_law10_Dear [x4] H fun x5 H6 => ifB x5 (K (Bo true) H6) (bnd (ixaSl 1 y3 y6) fun x7 => bnd (shiftA x7 0) fun x8 => bnd (ldA false 1 H6 x8) fun x9 => bnd (lenSl x9) fun x10 => bnd (binR .add y5 x10) fun x11 => bnd (binR .add y6 (I 1)) fun x12 => law12_Dear.L1 σ K y0 y3 y4 x11 x12 H6)) (bnd (binR .gtr y5 (I 120)) fun x13 => K x13 H)) : law12_Dear.L1 σ K y0 y3 y4 y5 y6 H :=
 fun j => lrd (g := 121) (Eq.mpr (by kernel_rfl) h)
theorem law12_Dear.run {a0 : AV} (h : bnd (lenSl a0) fun x1 => bnd (binR .gtr x1 (I 30)) fun x2 => ifB x2 (K (Bo true) H) (law12_Dear.L0 σ K a0 (.lit (.slice none 0 0)) (I 0) (.lit undef) (.lit undef) H)) : ∃ r H1, Good Try.prog σ n_law12_Dear [a0] H r H1 ∧ K r H1 :=
 gwp 121 (fn := Try.f20) (f := n_law12_Dear) (c := law12_Dear.code) (by kernel_rfl) (by kernel_rfl) (Eq.mpr (by kernel_rfl) h)
noncomputable def law22_alive.code : Code := bodyOf Try.f30
theorem law22_alive.run (h : bnd (bldR [I 0, .lit (.string ⟨#[]⟩), .lit (.string ⟨#[]⟩), .lit (.slice none 0 0), .lit (.slice none 0 0)] [(0, 1, (I (-1)))]) fun l1 => bnd (bldR [I 0, .lit (.string ⟨#[]⟩), .lit (.string ⟨#[]⟩), .lit (.slice none 0 0), .lit (.slice none 0 0)] [(1, 1, (.lit (.string ⟨#[108, 105]⟩)))]) fun l2 => bnd (bldR [I 0, .lit (.string ⟨#[]⟩), .lit (.string ⟨#[]⟩), .lit (.slice none 0 0), .lit (.slice none 0 0)] [(1, 1, (.lit (.string ⟨#[108, 105]⟩)))]) fun l3 => bnd (bldR [I 0, .lit (.string ⟨#[]⟩), .lit (.string ⟨#[]⟩), .lit (.slice none 0 0), .lit (.slice none 0 0)] [(1, 1, (.lit (.string ⟨#[98]⟩)))]) fun l4 => bnd (bldSlR [.int .i64 0, .string ⟨#[]⟩, .string ⟨#[]⟩, .slice none 0 0, .slice none 0 0] 5 4 H [(0, 5, (.agg l1)), (5, 5, (.agg l2)), (10, 5, (.agg l3)), (15, 5, (.agg l4))]) fun p5 => callK Try.prog σ n_dom_New [p5.1] p5.2 fun x6 H7 => bnd (exR x6 0) fun x8 => bnd (exR x6 1) fun x9 => callK Try.prog σ n_share_May [x8, (I 1), (I 2), (.lit (.slice none 0 0))] H7 fun x10 H11 => ifB x10 (callK Try.prog σ n_share_May [x8, (I 1), (I 3), (.lit (.slice none 0 0))] H11 fun x12 H13 => bnd (unR .not x12) fun x14 => K x14 H13) (K (Bo false) H11)) : ∃ r H1, Good Try.prog σ n_law22_alive [] H r H1 ∧ K r H1 :=
 gwp 0 (fn := Try.f30) (f := n_law22_alive) (c := law22_alive.code) (by kernel_rfl) (by kernel_rfl) (Eq.mpr (by kernel_rfl) h)
noncomputable def law22_both.code : Code := bodyOf Try.f31
theorem law22_both.run {a0 : AV} (h : callK Try.prog σ n_law9_Big [a0] H fun x1 H2 => callK Try.prog σ n_ref9_New [a0] H2 fun x3 H4 => bnd (exR x3 0) fun x5 => bnd (exR x3 1) fun x6 => ifB x1 (K (.tup [(.lit (.pointer none)), (.lit (.pointer none)), (Bo false)]) H4) (bnd (binR .neq x6 (I 0)) fun x7 => ifB x7 (K (.tup [(.lit (.pointer none)), (.lit (.pointer none)), (Bo false)]) H4) (callK Try.prog σ n_dom_New [a0] H4 fun x8 H9 => bnd (exR x8 0) fun x10 => bnd (exR x8 1) fun x11 => K (.tup [x10, x5, (Bo true)]) H9))) : ∃ r H1, Good Try.prog σ n_law22_both [a0] H r H1 ∧ K r H1 :=
 gwp 0 (fn := Try.f31) (f := n_law22_both) (c := law22_both.code) (by kernel_rfl) (by kernel_rfl) (Eq.mpr (by kernel_rfl) h)
noncomputable def ref9_NeedList.code : Code := bodyOf Try.f32
noncomputable def ref9_NeedList.L0 (σ : Sig) (K : AV → Hp → Prop) (y0 y3 y4 y5 : AV) (H : Hp) : Prop := ∀ j : Nat → AV, LoopP (CZ σ) (lB (bB (sR (sL (sR (sR ref9_NeedList.code)))))) ([y0, j 1, j 2, y3, y4, y5] ++ jr j 6 39) H (fun e T G => (nx (fQ Try.f32 σ K) fun T G => wp (CZ σ) 57 (sR (sR (sR ref9_NeedList.code))) T G (fQ Try.f32 σ K)) (unblock 0 e) T G)
noncomputable def ref9_NeedList.L1 (σ : Sig) (K : AV → Hp → Prop) (y0 y3 y4 y5 : AV) (H : Hp) : Prop := ∀ j : Nat → AV, LoopP (CZ σ) (lB (bB (sR (bB (sL (sR (lB (bB (sR (sL (sR (sR ref9_NeedList.code)))))))))))) ([y0, j 1, j 2, y3, y4, y5] ++ jr j 6 39) H (fun e T G => (fun e T G => (nx (nx (fun e T G => (nx (fQ Try.f32 σ K) fun T G => wp (CZ σ) 57 (sR (sR (sR ref9_NeedList.code))) T G (fQ Try.f32 σ K)) (unblock 0 e) T G) fun T G => ∀ j, LoopP (CZ σ) (lB (bB (sR (sL (sR (sR ref9_NeedList.code)))))) (maskA 57 j 0 T) G (fun e T G => (nx (fQ Try.f32 σ K) fun T G => wp (CZ σ) 57 (sR (sR (sR ref9_NeedList.code))) T G (fQ Try.f32 σ K)) (unblock 0 e) T G)) fun T G => wp (CZ σ) 57 (sR (sR (lB (bB (sR (sL (sR (sR ref9_NeedList.code)))))))) T G (nx (fun e T G => (nx (fQ Try.f32 σ K) fun T G => wp (CZ σ) 57 (sR (sR (sR ref9_NeedList.code))) T G (fQ Try.f32 σ K)) (unblock 0 e) T G) fun T G => ∀ j, LoopP (CZ σ) (lB (bB (sR (sL (sR (sR ref9_NeedList.code)))))) (maskA 57 j 0 T) G (fun e T G => (nx (fQ Try.f32 σ K) fun T G => wp (CZ σ) 57 (sR (sR (sR ref9_NeedList.code))) T G (fQ Try.f32 σ K)) (unblock 0 e) T G))) (unblock 1 e) T G) (unblock 2 e) T G)
noncomputable def ref9_NeedList.J2 (σ : Sig) (K : AV → Hp → Prop) (y0 y3 y4 y5 : AV) (H : Hp) : Prop := ∀ j : Nat → AV, wp (CZ σ) 57 (sR (sR (lB (bB (sR (bB (sL (sR (lB (bB (sR (sL (sR (sR ref9_NeedList.code)))))))))))))) ([y0, j 1, j 2, y3, y4, y5] ++ jr j 6 39) H (nx (fun e T G => (fun e T G => (nx (nx (fun e T G => (nx (fQ Try.f32 σ K) fun T G => wp (CZ σ) 57 (sR (sR (sR ref9_NeedList.code))) T G (fQ Try.f32 σ K)) (unblock 0 e) T G) fun T G => ∀ j, LoopP (CZ σ) (lB (bB (sR (sL (sR (sR ref9_NeedList.code)))))) (maskA 57 j 0 T) G (fun e T G => (nx (fQ Try.f32 σ K) fun T G => wp (CZ σ) 57 (sR (sR (sR ref9_NeedList.code))) T G (fQ Try.f32 σ K)) (unblock 0 e) T G)) fun T G => wp (CZ σ) 57 (sR (sR (lB (bB (sR (sL (sR (sR ref9_NeedList.code)))))))) T G (nx (fun e T G => (nx (fQ Try.f32 σ K) fun T G => wp (CZ σ) 57 (sR (sR (sR ref9_NeedList.code))) T G (fQ Try.f32 σ K)) (unblock 0 e) T G) fun T G => ∀ j, LoopP (CZ σ) (lB (bB (sR (sL (sR (sR ref9_NeedList.code)))))) (maskA 57 j 0 T) G (fun e T G => (nx (fQ Try.f32 σ K) fun T G => wp (CZ σ) 57 (sR (sR (sR ref9_NeedList.code))) T G (fQ Try.f32 σ K)) (unblock 0 e) T G))) (unblock 1 e) T G) (unblock 2 e) T G) fun T G => ∀ j, LoopP (CZ σ) (lB (bB (sR (bB (sL (sR (lB (bB (sR (sL (sR (sR ref9_NeedList.code)))))))))))) (maskA 57 j 0 T) G (fun e T G => (fun e T G => (nx (nx (fun e T G => (nx (fQ Try.f32 σ K) fun T G => wp (CZ σ) 57 (sR (sR (sR ref9_NeedList.code))) T G (fQ Try.f32 σ K)) (unblock 0 e) T G) fun T G => ∀ j, LoopP (CZ σ) (lB (bB (sR (sL (sR (sR ref9_NeedList.code)))))) (maskA 57 j 0 T) G (fun e T G => (nx (fQ Try.f32 σ K) fun T G => wp (CZ σ) 57 (sR (sR (sR ref9_NeedList.code))) T G (fQ Try.f32 σ K)) (unblock 0 e) T G)) fun T G => wp (CZ σ) 57 (sR (sR (lB (bB (sR (sL (sR (sR ref9_NeedList.code)))))))) T G (nx (fun e T G => (nx (fQ Try.f32 σ K) fun T G => wp (CZ σ) 57 (sR (sR (sR ref9_NeedList.code))) T G (fQ Try.f32 σ K)) (unblock 0 e) T G) fun T G => ∀ j, LoopP (CZ σ) (lB (bB (sR (sL (sR (sR ref9_NeedList.code)))))) (maskA 57 j 0 T) G (fun e T G => (nx (fQ Try.f32 σ K) fun T G => wp (CZ σ) 57 (sR (sR (sR ref9_NeedList.code))) T G (fQ Try.f32 σ K)) (unblock 0 e) T G))) (unblock 1 e) T G) (unblock 2 e) T G))
theorem ref9_NeedList.L0_step {y0 y3 y4 y5 : AV} (h : bnd (lenSl y0) fun x1 => bnd (binR .lss y4 x1) fun x2 => ifB x2 (ref9_NeedList.L1 σ K y0 y3 y4 (I 0) H) (K y3 H)) : ref9_NeedList.L0 σ K y0 y3 y4 y5 H :=
 fun j => lrd (g := 57) (Eq.mpr (by kernel_rfl) h)
theorem ref9_NeedList.L1_step {y0 y3 y4 y5 : AV} (h : bnd (ixaSl 2 y0 y4) fun x1 => bnd (shiftA x1 0) fun x2 => bnd (ldA false 1 H x2) fun x3 => bnd (lenSl x3) fun x4 => bnd (binR .lss y5 x4) fun x5 => ifB x5 (bnd (ixaSl 2 y0 y4) fun x6 => bnd (shiftA x6 0) fun x7 => bnd (ldA false 1 H x7) fun x8 => bnd (ixaSl 1 x8 y5) fun x9 => bnd (ldA true 1 H x9) fun x10 => callK Try.prog σ n_ref9_Needs [x10] H fun x11 H12 => ifB x11 (bnd (ixaSl 2 y0 y4) fun x13 => bnd (shiftA x13 0) fun x14 => bnd (ldA false 1 H12 x14) fun x15 => bnd (ixaSl 1 x15 y5) fun x16 => bnd (ldA true 1 H12 x16) fun x17 => bnd (bldSlR [.slice none 0 0] 1 1 H12 [(0, 1, x17)]) fun p18 => bnd (appR false 1 24 p18.2 y3 p18.1) fun p19 => ref9_NeedList.J2 σ K y0 p19.1 y4 y5 p19.2) (ref9_NeedList.J2 σ K y0 y3 y4 y5 H12)) (bnd (binR .add y4 (I 1)) fun x20 => ref9_NeedList.L0 σ K y0 y3 x20 y5 H)) : ref9_NeedList.L1 σ K y0 y3 y4 y5 H :=
 fun j => lrd (g := 57) (Eq.mpr (by kernel_rfl) h)
theorem ref9_NeedList.J2_step {y0 y3 y4 y5 : AV} (h : bnd (binR .add y5 (I 1)) fun x1 => ref9_NeedList.L1 σ K y0 y3 y4 x1 H) : ref9_NeedList.J2 σ K y0 y3 y4 y5 H :=
 fun j => Eq.mpr (by kernel_rfl) h
theorem ref9_NeedList.run {a0 : AV} (h : ref9_NeedList.L0 σ K a0 (.lit (.slice none 0 0)) (I 0) (.lit undef) H) : ∃ r H1, Good Try.prog σ n_ref9_NeedList [a0] H r H1 ∧ K r H1 :=
 gwp 57 (fn := Try.f32) (f := n_ref9_NeedList) (c := ref9_NeedList.code) (by kernel_rfl) (by kernel_rfl) (Eq.mpr (by kernel_rfl) h)
noncomputable def share_May.code : Code := bodyOf Try.f33
theorem share_May.run {a0 a1 a2 a3 : AV} (h : bnd (eqPtrR .eql a0 (.lit (.pointer none))) fun x1 => ifB x1 (K (Bo false) H) (callK Try.prog σ n_dom_Tree_Parent [a0, a1] H fun x2 H3 => bnd (binR .lss x2 (I 0)) fun x4 => ifB x4 (K (Bo false) H3) (callK Try.prog σ n_dom_Tree_Parent [a0, a1] H3 fun x5 H6 => callK Try.prog σ n_dom_Tree_Parent [a0, a2] H6 fun x7 H8 => bnd (binR .neq x5 x7) fun x9 => ifB x9 (K (Bo false) H8) (callK Try.prog σ n_dom_Tree_Node [a0, a1] H8 fun x10 H11 => callK Try.prog σ n_dom_Tree_Node [a0, a2] H11 fun x12 H13 => allocK [I 0, .lit (.string ⟨#[]⟩), .lit (.string ⟨#[]⟩), .lit (.slice none 0 0), .lit (.slice none 0 0)] H13 fun x14 H15 => allocK [I 0, .lit (.string ⟨#[]⟩), .lit (.string ⟨#[]⟩), .lit (.slice none 0 0), .lit (.slice none 0 0)] H15 fun x16 H17 => bnd (stA 5 H17 x14 x10) fun H18 => bnd (stA 5 H18 x16 x12) fun H19 => bnd (shiftA x14 1) fun x20 => bnd (ldA false 1 H19 x20) fun x21 => bnd (shiftA x16 1) fun x22 => bnd (ldA false 1 H19 x22) fun x23 => bnd (binR .eql x21 x23) fun x24 => ifB x24 (bnd (shiftA x14 2) fun x25 => bnd (ldA false 1 H19 x25) fun x26 => bnd (shiftA x16 2) fun x27 => bnd (ldA false 1 H19 x27) fun x28 => bnd (binR .eql x26 x28) fun x29 => ifB x29 (bnd (shiftA x14 3) fun x30 => bnd (ldA false 1 H19 x30) fun x31 => bnd (shiftA x16 3) fun x32 => bnd (ldA false 1 H19 x32) fun x33 => callK Try.prog σ n_slices_Equal_string_string [x31, x33] H19 fun x34 H35 => ifB x34 (callK Try.prog σ n_reval_Bits [a0, a1, a3] H35 fun x36 H37 => callK Try.prog σ n_reval_Bits [a0, a2, a3] H37 fun x38 H39 => callK Try.prog σ n_slices_Equal_bool_bool [x36, x38] H39 fun x40 H41 => K x40 H41) (K (Bo false) H35)) (K (Bo false) H19)) (K (Bo false) H19))))) : ∃ r H1, Good Try.prog σ n_share_May [a0, a1, a2, a3] H r H1 ∧ K r H1 :=
 gwp 0 (fn := Try.f33) (f := n_share_May) (c := share_May.code) (by kernel_rfl) (by kernel_rfl) (Eq.mpr (by kernel_rfl) h)
noncomputable def ref9_Tree_Winners.code : Code := bodyOf Try.f35
noncomputable def ref9_Tree_Winners.L0 (σ : Sig) (K : AV → Hp → Prop) (y0 y1 y2 y6 y7 y8 y9 y10 y11 y13 y14 y15 : AV) (H : Hp) : Prop := ∀ j : Nat → AV, LoopP (CZ σ) (lB (bB (sR (sL (sR (sR (sR (sR ref9_Tree_Winners.code)))))))) ([y0, y1, y2, j 3, j 4, j 5, y6, y7, y8, y9, y10, y11, j 12, y13, y14, y15] ++ jr j 16 77) H (fun e T G => (nx (fQ Try.f35 σ K) fun T G => wp (CZ σ) 61383 (sR (sR (sR (sR (sR ref9_Tree_Winners.code))))) T G (fQ Try.f35 σ K)) (unblock 0 e) T G)
noncomputable def ref9_Tree_Winners.J1 (σ : Sig) (K : AV → Hp → Prop) (y0 y1 y2 y6 y7 y8 y9 y10 y11 y13 y14 y15 : AV) (H : Hp) : Prop := ∀ j : Nat → AV, wp (CZ σ) 61383 (sR (sR (lB (bB (sR (sL (sR (sR (sR (sR ref9_Tree_Winners.code)))))))))) ([y0, y1, y2, j 3, j 4, j 5, y6, y7, y8, y9, y10, y11, j 12, y13, y14, y15] ++ jr j 16 77) H (nx (fun e T G => (nx (fQ Try.f35 σ K) fun T G => wp (CZ σ) 61383 (sR (sR (sR (sR (sR ref9_Tree_Winners.code))))) T G (fQ Try.f35 σ K)) (unblock 0 e) T G) fun T G => ∀ j, LoopP (CZ σ) (lB (bB (sR (sL (sR (sR (sR (sR ref9_Tree_Winners.code)))))))) (maskA 61383 j 0 T) G (fun e T G => (nx (fQ Try.f35 σ K) fun T G => wp (CZ σ) 61383 (sR (sR (sR (sR (sR ref9_Tree_Winners.code))))) T G (fQ Try.f35 σ K)) (unblock 0 e) T G))
noncomputable def ref9_Tree_Winners.L2 (σ : Sig) (K : AV → Hp → Prop) (y0 y1 y2 y6 y7 y8 y9 y10 y11 y13 y14 y15 : AV) (H : Hp) : Prop := ∀ j : Nat → AV, LoopP (CZ σ) (lB (bB (sR (sR (sR (bB (sL (sR (lB (bB (sR (sL (sR (sR (sR (sR ref9_Tree_Winners.code)))))))))))))))) ([y0, y1, y2, j 3, j 4, j 5, y6, y7, y8, y9, y10, y11, j 12, y13, y14, y15] ++ jr j 16 77) H (fun e T G => (fun e T G => (nx (nx (fun e T G => (nx (fQ Try.f35 σ K) fun T G => wp (CZ σ) 61383 (sR (sR (sR (sR (sR ref9_Tree_Winners.code))))) T G (fQ Try.f35 σ K)) (unblock 0 e) T G) fun T G => ∀ j, LoopP (CZ σ) (lB (bB (sR (sL (sR (sR (sR (sR ref9_Tree_Winners.code)))))))) (maskA 61383 j 0 T) G (fun e T G => (nx (fQ Try.f35 σ K) fun T G => wp (CZ σ) 61383 (sR (sR (sR (sR (sR ref9_Tree_Winners.code))))) T G (fQ Try.f35 σ K)) (unblock 0 e) T G)) fun T G => ∀ j, wp (CZ σ) 61383 (sR (sR (lB (bB (sR (sL (sR (sR (sR (sR ref9_Tree_Winners.code)))))))))) (maskA 61383 j 0 T) G (nx (fun e T G => (nx (fQ Try.f35 σ K) fun T G => wp (CZ σ) 61383 (sR (sR (sR (sR (sR ref9_Tree_Winners.code))))) T G (fQ Try.f35 σ K)) (unblock 0 e) T G) fun T G => ∀ j, LoopP (CZ σ) (lB (bB (sR (sL (sR (sR (sR (sR ref9_Tree_Winners.code)))))))) (maskA 61383 j 0 T) G (fun e T G => (nx (fQ Try.f35 σ K) fun T G => wp (CZ σ) 61383 (sR (sR (sR (sR (sR ref9_Tree_Winners.code))))) T G (fQ Try.f35 σ K)) (unblock 0 e) T G))) (unblock 1 e) T G) (unblock 2 e) T G)
noncomputable def ref9_Tree_Winners.J3 (σ : Sig) (K : AV → Hp → Prop) (y0 y1 y2 y6 y7 y8 y9 y10 y11 y13 y14 y15 : AV) (H : Hp) : Prop := ∀ j : Nat → AV, wp (CZ σ) 61383 (sR (sR (sR (bB (sL (sR (lB (bB (sR (sR (sR (bB (sL (sR (lB (bB (sR (sL (sR (sR (sR (sR ref9_Tree_Winners.code)))))))))))))))))))))) ([y0, y1, y2, j 3, j 4, j 5, y6, y7, y8, y9, y10, y11, j 12, y13, y14, y15] ++ jr j 16 77) H (fun e T G => (nx (nx (fun e T G => (fun e T G => (nx (nx (fun e T G => (nx (fQ Try.f35 σ K) fun T G => wp (CZ σ) 61383 (sR (sR (sR (sR (sR ref9_Tree_Winners.code))))) T G (fQ Try.f35 σ K)) (unblock 0 e) T G) fun T G => ∀ j, LoopP (CZ σ) (lB (bB (sR (sL (sR (sR (sR (sR ref9_Tree_Winners.code)))))))) (maskA 61383 j 0 T) G (fun e T G => (nx (fQ Try.f35 σ K) fun T G => wp (CZ σ) 61383 (sR (sR (sR (sR (sR ref9_Tree_Winners.code))))) T G (fQ Try.f35 σ K)) (unblock 0 e) T G)) fun T G => ∀ j, wp (CZ σ) 61383 (sR (sR (lB (bB (sR (sL (sR (sR (sR (sR ref9_Tree_Winners.code)))))))))) (maskA 61383 j 0 T) G (nx (fun e T G => (nx (fQ Try.f35 σ K) fun T G => wp (CZ σ) 61383 (sR (sR (sR (sR (sR ref9_Tree_Winners.code))))) T G (fQ Try.f35 σ K)) (unblock 0 e) T G) fun T G => ∀ j, LoopP (CZ σ) (lB (bB (sR (sL (sR (sR (sR (sR ref9_Tree_Winners.code)))))))) (maskA 61383 j 0 T) G (fun e T G => (nx (fQ Try.f35 σ K) fun T G => wp (CZ σ) 61383 (sR (sR (sR (sR (sR ref9_Tree_Winners.code))))) T G (fQ Try.f35 σ K)) (unblock 0 e) T G))) (unblock 1 e) T G) (unblock 2 e) T G) fun T G => ∀ j, LoopP (CZ σ) (lB (bB (sR (sR (sR (bB (sL (sR (lB (bB (sR (sL (sR (sR (sR (sR ref9_Tree_Winners.code)))))))))))))))) (maskA 61383 j 0 T) G (fun e T G => (fun e T G => (nx (nx (fun e T G => (nx (fQ Try.f35 σ K) fun T G => wp (CZ σ) 61383 (sR (sR (sR (sR (sR ref9_Tree_Winners.code))))) T G (fQ Try.f35 σ K)) (unblock 0 e) T G) fun T G => ∀ j, LoopP (CZ σ) (lB (bB (sR (sL (sR (sR (sR (sR ref9_Tree_Winners.code)))))))) (maskA 61383 j 0 T) G (fun e T G => (nx (fQ Try.f35 σ K) fun T G => wp (CZ σ) 61383 (sR (sR (sR (sR (sR ref9_Tree_Winners.code))))) T G (fQ Try.f35 σ K)) (unblock 0 e) T G)) fun T G => ∀ j, wp (CZ σ) 61383 (sR (sR (lB (bB (sR (sL (sR (sR (sR (sR ref9_Tree_Winners.code)))))))))) (maskA 61383 j 0 T) G (nx (fun e T G => (nx (fQ Try.f35 σ K) fun T G => wp (CZ σ) 61383 (sR (sR (sR (sR (sR ref9_Tree_Winners.code))))) T G (fQ Try.f35 σ K)) (unblock 0 e) T G) fun T G => ∀ j, LoopP (CZ σ) (lB (bB (sR (sL (sR (sR (sR (sR ref9_Tree_Winners.code)))))))) (maskA 61383 j 0 T) G (fun e T G => (nx (fQ Try.f35 σ K) fun T G => wp (CZ σ) 61383 (sR (sR (sR (sR (sR ref9_Tree_Winners.code))))) T G (fQ Try.f35 σ K)) (unblock 0 e) T G))) (unblock 1 e) T G) (unblock 2 e) T G)) fun T G => ∀ j, wp (CZ σ) 61383 (sR (sR (lB (bB (sR (sR (sR (bB (sL (sR (lB (bB (sR (sL (sR (sR (sR (sR ref9_Tree_Winners.code)))))))))))))))))) (maskA 61383 j 0 T) G (nx (fun e T G => (fun e T G => (nx (nx (fun e T G => (nx (fQ Try.f35 σ K) fun T G => wp (CZ σ) 61383 (sR (sR (sR (sR (sR ref9_Tree_Winners.code))))) T G (fQ Try.f35 σ K)) (unblock 0 e) T G) fun T G => ∀ j, LoopP (CZ σ) (lB (bB (sR (sL (sR (sR (sR (sR ref9_Tree_Winners.code)))))))) (maskA 61383 j 0 T) G (fun e T G => (nx (fQ Try.f35 σ K) fun T G => wp (CZ σ) 61383 (sR (sR (sR (sR (sR ref9_Tree_Winners.code))))) T G (fQ Try.f35 σ K)) (unblock 0 e) T G)) fun T G => ∀ j, wp (CZ σ) 61383 (sR (sR (lB (bB (sR (sL (sR (sR (sR (sR ref9_Tree_Winners.code)))))))))) (maskA 61383 j 0 T) G (nx (fun e T G => (nx (fQ Try.f35 σ K) fun T G => wp (CZ σ) 61383 (sR (sR (sR (sR (sR ref9_Tree_Winners.code))))) T G (fQ Try.f35 σ K)) (unblock 0 e) T G) fun T G => ∀ j, LoopP (CZ σ) (lB (bB (sR (sL (sR (sR (sR (sR ref9_Tree_Winners.code)))))))) (maskA 61383 j 0 T) G (fun e T G => (nx (fQ Try.f35 σ K) fun T G => wp (CZ σ) 61383 (sR (sR (sR (sR (sR ref9_Tree_Winners.code))))) T G (fQ Try.f35 σ K)) (unblock 0 e) T G))) (unblock 1 e) T G) (unblock 2 e) T G) fun T G => ∀ j, LoopP (CZ σ) (lB (bB (sR (sR (sR (bB (sL (sR (lB (bB (sR (sL (sR (sR (sR (sR ref9_Tree_Winners.code)))))))))))))))) (maskA 61383 j 0 T) G (fun e T G => (fun e T G => (nx (nx (fun e T G => (nx (fQ Try.f35 σ K) fun T G => wp (CZ σ) 61383 (sR (sR (sR (sR (sR ref9_Tree_Winners.code))))) T G (fQ Try.f35 σ K)) (unblock 0 e) T G) fun T G => ∀ j, LoopP (CZ σ) (lB (bB (sR (sL (sR (sR (sR (sR ref9_Tree_Winners.code)))))))) (maskA 61383 j 0 T) G (fun e T G => (nx (fQ Try.f35 σ K) fun T G => wp (CZ σ) 61383 (sR (sR (sR (sR (sR ref9_Tree_Winners.code))))) T G (fQ Try.f35 σ K)) (unblock 0 e) T G)) fun T G => ∀ j, wp (CZ σ) 61383 (sR (sR (lB (bB (sR (sL (sR (sR (sR (sR ref9_Tree_Winners.code)))))))))) (maskA 61383 j 0 T) G (nx (fun e T G => (nx (fQ Try.f35 σ K) fun T G => wp (CZ σ) 61383 (sR (sR (sR (sR (sR ref9_Tree_Winners.code))))) T G (fQ Try.f35 σ K)) (unblock 0 e) T G) fun T G => ∀ j, LoopP (CZ σ) (lB (bB (sR (sL (sR (sR (sR (sR ref9_Tree_Winners.code)))))))) (maskA 61383 j 0 T) G (fun e T G => (nx (fQ Try.f35 σ K) fun T G => wp (CZ σ) 61383 (sR (sR (sR (sR (sR ref9_Tree_Winners.code))))) T G (fQ Try.f35 σ K)) (unblock 0 e) T G))) (unblock 1 e) T G) (unblock 2 e) T G))) (unblock 3 e) T G)
noncomputable def ref9_Tree_Winners.J4 (σ : Sig) (K : AV → Hp → Prop) (y0 y1 y2 y6 y7 y8 y9 y10 y11 y13 y14 y15 : AV) (H : Hp) : Prop := ∀ j : Nat → AV, wp (CZ σ) 61383 (sR (sR (lB (bB (sR (sR (sR (bB (sL (sR (lB (bB (sR (sL (sR (sR (sR (sR ref9_Tree_Winners.code)))))))))))))))))) ([y0, y1, y2, j 3, j 4, j 5, y6, y7, y8, y9, y10, y11, j 12, y13, y14, y15] ++ jr j 16 77) H (nx (fun e T G => (fun e T G => (nx (nx (fun e T G => (nx (fQ Try.f35 σ K) fun T G => wp (CZ σ) 61383 (sR (sR (sR (sR (sR ref9_Tree_Winners.code))))) T G (fQ Try.f35 σ K)) (unblock 0 e) T G) fun T G => ∀ j, LoopP (CZ σ) (lB (bB (sR (sL (sR (sR (sR (sR ref9_Tree_Winners.code)))))))) (maskA 61383 j 0 T) G (fun e T G => (nx (fQ Try.f35 σ K) fun T G => wp (CZ σ) 61383 (sR (sR (sR (sR (sR ref9_Tree_Winners.code))))) T G (fQ Try.f35 σ K)) (unblock 0 e) T G)) fun T G => ∀ j, wp (CZ σ) 61383 (sR (sR (lB (bB (sR (sL (sR (sR (sR (sR ref9_Tree_Winners.code)))))))))) (maskA 61383 j 0 T) G (nx (fun e T G => (nx (fQ Try.f35 σ K) fun T G => wp (CZ σ) 61383 (sR (sR (sR (sR (sR ref9_Tree_Winners.code))))) T G (fQ Try.f35 σ K)) (unblock 0 e) T G) fun T G => ∀ j, LoopP (CZ σ) (lB (bB (sR (sL (sR (sR (sR (sR ref9_Tree_Winners.code)))))))) (maskA 61383 j 0 T) G (fun e T G => (nx (fQ Try.f35 σ K) fun T G => wp (CZ σ) 61383 (sR (sR (sR (sR (sR ref9_Tree_Winners.code))))) T G (fQ Try.f35 σ K)) (unblock 0 e) T G))) (unblock 1 e) T G) (unblock 2 e) T G) fun T G => ∀ j, LoopP (CZ σ) (lB (bB (sR (sR (sR (bB (sL (sR (lB (bB (sR (sL (sR (sR (sR (sR ref9_Tree_Winners.code)))))))))))))))) (maskA 61383 j 0 T) G (fun e T G => (fun e T G => (nx (nx (fun e T G => (nx (fQ Try.f35 σ K) fun T G => wp (CZ σ) 61383 (sR (sR (sR (sR (sR ref9_Tree_Winners.code))))) T G (fQ Try.f35 σ K)) (unblock 0 e) T G) fun T G => ∀ j, LoopP (CZ σ) (lB (bB (sR (sL (sR (sR (sR (sR ref9_Tree_Winners.code)))))))) (maskA 61383 j 0 T) G (fun e T G => (nx (fQ Try.f35 σ K) fun T G => wp (CZ σ) 61383 (sR (sR (sR (sR (sR ref9_Tree_Winners.code))))) T G (fQ Try.f35 σ K)) (unblock 0 e) T G)) fun T G => ∀ j, wp (CZ σ) 61383 (sR (sR (lB (bB (sR (sL (sR (sR (sR (sR ref9_Tree_Winners.code)))))))))) (maskA 61383 j 0 T) G (nx (fun e T G => (nx (fQ Try.f35 σ K) fun T G => wp (CZ σ) 61383 (sR (sR (sR (sR (sR ref9_Tree_Winners.code))))) T G (fQ Try.f35 σ K)) (unblock 0 e) T G) fun T G => ∀ j, LoopP (CZ σ) (lB (bB (sR (sL (sR (sR (sR (sR ref9_Tree_Winners.code)))))))) (maskA 61383 j 0 T) G (fun e T G => (nx (fQ Try.f35 σ K) fun T G => wp (CZ σ) 61383 (sR (sR (sR (sR (sR ref9_Tree_Winners.code))))) T G (fQ Try.f35 σ K)) (unblock 0 e) T G))) (unblock 1 e) T G) (unblock 2 e) T G))
theorem ref9_Tree_Winners.L0_step {y0 y1 y2 y6 y7 y8 y9 y10 y11 y13 y14 y15 : AV} (h : bnd (lenSl y2) fun x1 => bnd (binR .lss y10 x1) fun x2 => ifB x2 (bnd (ixaSl 2 y2 y10) fun x3 => bnd (shiftA x3 0) fun x4 => bnd (ldA false 1 H x4) fun x5 => callK Try.prog σ n_ref9_Tree_Best [y0, y1, x5] H fun x6 H7 => bnd (exR x6 0) fun x8 => bnd (exR x6 1) fun x9 => bnd (unR .not x9) fun x10 => ifB x10 (ref9_Tree_Winners.J1 σ K y0 y1 y2 y6 y7 y8 y9 y10 x8 y13 y14 y15 H7) (ref9_Tree_Winners.L2 σ K y0 y1 y2 y6 y7 y8 y9 y10 x8 (I 0) y14 y15 H7)) (bnd (ldA true 16 H y7) fun x11 => bnd (stA 16 H y6 x11) fun H12 => bnd (ldA true 16 H12 y6) fun r13 => K r13 H12)) : ref9_Tree_Winners.L0 σ K y0 y1 y2 y6 y7 y8 y9 y10 y11 y13 y14 y15 H :=
 fun j => lrd (g := 61383) (Eq.mpr (by kernel_rfl) h)
theorem ref9_Tree_Winners.J1_step {y0 y1 y2 y6 y7 y8 y9 y10 y11 y13 y14 y15 : AV} (h : bnd (binR .add y10 (I 1)) fun x1 => ref9_Tree_Winners.L0 σ K y0 y1 y2 y6 y7 y8 y9 x1 y11 y13 y14 y15 H) : ref9_Tree_Winners.J1 σ K y0 y1 y2 y6 y7 y8 y9 y10 y11 y13 y14 y15 H :=
 fun j => Eq.mpr (by kernel_rfl) h
theorem ref9_Tree_Winners.L2_step {y0 y1 y2 y6 y7 y8 y9 y10 y11 y13 y14 y15 : AV} (h : bnd (ixaSl 2 y2 y10) fun x1 => bnd (shiftA x1 1) fun x2 => bnd (ldA false 1 H x2) fun x3 => bnd (lenSl x3) fun x4 => bnd (binR .lss y13 x4) fun x5 => ifB x5 (bnd (ixaSl 2 y2 y10) fun x6 => bnd (shiftA x6 1) fun x7 => bnd (ldA false 1 H x7) fun x8 => bnd (ixaSl 4 x8 y13) fun x9 => bnd (ldA true 4 H x9) fun x10 => allocK [I 0, I 0, I 0, Bo false] H fun x11 H12 => bnd (stA 4 H12 x11 x10) fun H13 => bnd (shiftA x11 3) fun x14 => bnd (ldA false 1 H13 x14) fun x15 => ifB x15 (bnd (binR .add y11 (I 1073741824)) fun x16 => ref9_Tree_Winners.J3 σ K y0 y1 y2 y6 y7 y8 y9 y10 y11 y13 x11 x16 H13) (ref9_Tree_Winners.J3 σ K y0 y1 y2 y6 y7 y8 y9 y10 y11 y13 x11 y11 H13)) (ref9_Tree_Winners.J1 σ K y0 y1 y2 y6 y7 y8 y9 y10 y11 y13 y14 y15 H)) : ref9_Tree_Winners.L2 σ K y0 y1 y2 y6 y7 y8 y9 y10 y11 y13 y14 y15 H :=
 fun j => lrd (g := 61383) (Eq.mpr (by kernel_rfl) h)
theorem ref9_Tree_Winners.J3_step {y0 y1 y2 y6 y7 y8 y9 y10 y11 y13 y14 y15 : AV} (h : bnd (shiftA y14 0) fun x1 => bnd (ldA false 1 H x1) fun x2 => bnd (binR .lss x2 (I 0)) fun x3 => ifB x3 (ref9_Tree_Winners.J4 σ K y0 y1 y2 y6 y7 y8 y9 y10 y11 y13 y14 y15 H) (bnd (shiftA y14 0) fun x4 => bnd (ldA false 1 H x4) fun x5 => bnd (binR .geq x5 (I 8)) fun x6 => ifB x6 (ref9_Tree_Winners.J4 σ K y0 y1 y2 y6 y7 y8 y9 y10 y11 y13 y14 y15 H) (bnd (shiftA y14 0) fun x7 => bnd (ldA false 1 H x7) fun x8 => bnd (ixaArr 8 1 y9 x8) fun x9 => bnd (ldA false 1 H x9) fun x10 => ifB x10 (bnd (shiftA y14 0) fun x11 => bnd (ldA false 1 H x11) fun x12 => bnd (ixaArr 8 1 y8 x12) fun x13 => bnd (ldA false 1 H x13) fun x14 => bnd (binR .lss y15 x14) fun x15 => ifB x15 (ref9_Tree_Winners.J4 σ K y0 y1 y2 y6 y7 y8 y9 y10 y11 y13 y14 y15 H) (bnd (shiftA y14 0) fun x16 => bnd (ldA false 1 H x16) fun x17 => bnd (shiftA y14 1) fun x18 => bnd (ldA true 2 H x18) fun x19 => bnd (ixaArr 8 2 y7 x17) fun x20 => bnd (stA 2 H x20 x19) fun H21 => bnd (shiftA y14 0) fun x22 => bnd (ldA false 1 H21 x22) fun x23 => bnd (ixaArr 8 1 y8 x23) fun x24 => bnd (stA 1 H21 x24 y15) fun H25 => bnd (shiftA y14 0) fun x26 => bnd (ldA false 1 H25 x26) fun x27 => bnd (ixaArr 8 1 y9 x27) fun x28 => bnd (stA 1 H25 x28 (Bo true)) fun H29 => ref9_Tree_Winners.J4 σ K y0 y1 y2 y6 y7 y8 y9 y10 y11 y13 y14 y15 H29)) (bnd (shiftA y14 0) fun x30 => bnd (ldA false 1 H x30) fun x31 => bnd (shiftA y14 1) fun x32 => bnd (ldA true 2 H x32) fun x33 => bnd (ixaArr 8 2 y7 x31) fun x34 => bnd (stA 2 H x34 x33) fun H35 => bnd (shiftA y14 0) fun x36 => bnd (ldA false 1 H35 x36) fun x37 => bnd (ixaArr 8 1 y8 x37) fun x38 => bnd (stA 1 H35 x38 y15) fun H39 => bnd (shiftA y14 0) fun x40 => bnd (ldA false 1 H39 x40) fun x41 => bnd (ixaArr 8 1 y9 x41) fun x42 => bnd (stA 1 H39 x42 (Bo true)) fun H43 => ref9_Tree_Winners.J4 σ K y0 y1 y2 y6 y7 y8 y9 y10 y11 y13 y14 y15 H43)))) : ref9_Tree_Winners.J3 σ K y0 y1 y2 y6 y7 y8 y9 y10 y11 y13 y14 y15 H :=
 fun j => Eq.mpr (by kernel_rfl) h
theorem ref9_Tree_Winners.J4_step {y0 y1 y2 y6 y7 y8 y9 y10 y11 y13 y14 y15 : AV} (h : bnd (binR .add y13 (I 1)) fun x1 => ref9_Tree_Winners.L2 σ K y0 y1 y2 y6 y7 y8 y9 y10 y11 x1 y14 y15 H) : ref9_Tree_Winners.J4 σ K y0 y1 y2 y6 y7 y8 y9 y10 y11 y13 y14 y15 H :=
 fun j => Eq.mpr (by kernel_rfl) h
theorem ref9_Tree_Winners.run {a0 a1 a2 : AV} (h : allocK (List.replicate 16 (I 0)) H fun x1 H2 => allocK (List.replicate 16 (I 0)) H2 fun x3 H4 => allocK [I 0, I 0, I 0, I 0, I 0, I 0, I 0, I 0] H4 fun x5 H6 => allocK [Bo false, Bo false, Bo false, Bo false, Bo false, Bo false, Bo false, Bo false] H6 fun x7 H8 => ref9_Tree_Winners.L0 σ K a0 a1 a2 x1 x3 x5 x7 (I 0) (.lit undef) (.lit undef) (.lit undef) (.lit undef) H8) : ∃ r H1, Good Try.prog σ n_ref9_Tree_Winners [a0, a1, a2] H r H1 ∧ K r H1 :=
 gwp 61383 (fn := Try.f35) (f := n_ref9_Tree_Winners) (c := ref9_Tree_Winners.code) (by kernel_rfl) (by kernel_rfl) (Eq.mpr (by kernel_rfl) h)
noncomputable def law10_dear.code : Code := bodyOf Try.f37
noncomputable def law10_dear.L0 (σ : Sig) (K : AV → Hp → Prop) (y0 y1 y5 y6 y7 y8 y9 y10 : AV) (H : Hp) : Prop := ∀ j : Nat → AV, LoopP (CZ σ) (lB (bB (sR (sL (sR (sR (sR law10_dear.code))))))) ([y0, y1, j 2, j 3, j 4, y5, y6, y7, y8, y9, y10] ++ jr j 11 95) H (fun e T G => (nx (fQ Try.f37 σ K) fun T G => wp (CZ σ) 2019 (sR (sR (sR (sR law10_dear.code)))) T G (fQ Try.f37 σ K)) (unblock 0 e) T G)
noncomputable def law10_dear.L1 (σ : Sig) (K : AV → Hp → Prop) (y0 y1 y5 y6 y7 y8 y9 y10 : AV) (H : Hp) : Prop := ∀ j : Nat → AV, LoopP (CZ σ) (lB (bB (sR (sR (sR (bB (sL (sR (lB (bB (sR (sL (sR (sR (sR law10_dear.code))))))))))))))) ([y0, y1, j 2, j 3, j 4, y5, y6, y7, y8, y9, y10] ++ jr j 11 95) H (fun e T G => (fun e T G => (nx (nx (fun e T G => (nx (fQ Try.f37 σ K) fun T G => wp (CZ σ) 2019 (sR (sR (sR (sR law10_dear.code)))) T G (fQ Try.f37 σ K)) (unblock 0 e) T G) fun T G => ∀ j, LoopP (CZ σ) (lB (bB (sR (sL (sR (sR (sR law10_dear.code))))))) (maskA 2019 j 0 T) G (fun e T G => (nx (fQ Try.f37 σ K) fun T G => wp (CZ σ) 2019 (sR (sR (sR (sR law10_dear.code)))) T G (fQ Try.f37 σ K)) (unblock 0 e) T G)) fun T G => wp (CZ σ) 2019 (sR (sR (lB (bB (sR (sL (sR (sR (sR law10_dear.code))))))))) T G (nx (fun e T G => (nx (fQ Try.f37 σ K) fun T G => wp (CZ σ) 2019 (sR (sR (sR (sR law10_dear.code)))) T G (fQ Try.f37 σ K)) (unblock 0 e) T G) fun T G => ∀ j, LoopP (CZ σ) (lB (bB (sR (sL (sR (sR (sR law10_dear.code))))))) (maskA 2019 j 0 T) G (fun e T G => (nx (fQ Try.f37 σ K) fun T G => wp (CZ σ) 2019 (sR (sR (sR (sR law10_dear.code)))) T G (fQ Try.f37 σ K)) (unblock 0 e) T G))) (unblock 1 e) T G) (unblock 2 e) T G)
noncomputable def law10_dear.L2 (σ : Sig) (K : AV → Hp → Prop) (y0 y1 y5 y6 y7 y8 y9 y10 : AV) (H : Hp) : Prop := ∀ j : Nat → AV, LoopP (CZ σ) (lB (bB (sR (sR (sR (sR (bB (sL (sR (lB (bB (sR (sR (sR (bB (sL (sR (lB (bB (sR (sL (sR (sR (sR law10_dear.code)))))))))))))))))))))))) ([y0, y1, j 2, j 3, j 4, y5, y6, y7, y8, y9, y10] ++ jr j 11 95) H (fun e T G => (fun e T G => (nx (nx (fun e T G => (fun e T G => (nx (nx (fun e T G => (nx (fQ Try.f37 σ K) fun T G => wp (CZ σ) 2019 (sR (sR (sR (sR law10_dear.code)))) T G (fQ Try.f37 σ K)) (unblock 0 e) T G) fun T G => ∀ j, LoopP (CZ σ) (lB (bB (sR (sL (sR (sR (sR law10_dear.code))))))) (maskA 2019 j 0 T) G (fun e T G => (nx (fQ Try.f37 σ K) fun T G => wp (CZ σ) 2019 (sR (sR (sR (sR law10_dear.code)))) T G (fQ Try.f37 σ K)) (unblock 0 e) T G)) fun T G => wp (CZ σ) 2019 (sR (sR (lB (bB (sR (sL (sR (sR (sR law10_dear.code))))))))) T G (nx (fun e T G => (nx (fQ Try.f37 σ K) fun T G => wp (CZ σ) 2019 (sR (sR (sR (sR law10_dear.code)))) T G (fQ Try.f37 σ K)) (unblock 0 e) T G) fun T G => ∀ j, LoopP (CZ σ) (lB (bB (sR (sL (sR (sR (sR law10_dear.code))))))) (maskA 2019 j 0 T) G (fun e T G => (nx (fQ Try.f37 σ K) fun T G => wp (CZ σ) 2019 (sR (sR (sR (sR law10_dear.code)))) T G (fQ Try.f37 σ K)) (unblock 0 e) T G))) (unblock 1 e) T G) (unblock 2 e) T G) fun T G => ∀ j, LoopP (CZ σ) (lB (bB (sR (sR (sR (bB (sL (sR (lB (bB (sR (sL (sR (sR (sR law10_dear.code))))))))))))))) (maskA 2019 j 0 T) G (fun e T G => (fun e T G => (nx (nx (fun e T G => (nx (fQ Try.f37 σ K) fun T G => wp (CZ σ) 2019 (sR (sR (sR (sR law10_dear.code)))) T G (fQ Try.f37 σ K)) (unblock 0 e) T G) fun T G => ∀ j, LoopP (CZ σ) (lB (bB (sR (sL (sR (sR (sR law10_dear.code))))))) (maskA 2019 j 0 T) G (fun e T G => (nx (fQ Try.f37 σ K) fun T G => wp (CZ σ) 2019 (sR (sR (sR (sR law10_dear.code)))) T G (fQ Try.f37 σ K)) (unblock 0 e) T G)) fun T G => wp (CZ σ) 2019 (sR (sR (lB (bB (sR (sL (sR (sR (sR law10_dear.code))))))))) T G (nx (fun e T G => (nx (fQ Try.f37 σ K) fun T G => wp (CZ σ) 2019 (sR (sR (sR (sR law10_dear.code)))) T G (fQ Try.f37 σ K)) (unblock 0 e) T G) fun T G => ∀ j, LoopP (CZ σ) (lB (bB (sR (sL (sR (sR (sR law10_dear.code))))))) (maskA 2019 j 0 T) G (fun e T G => (nx (fQ Try.f37 σ K) fun T G => wp (CZ σ) 2019 (sR (sR (sR (sR law10_dear.code)))) T G (fQ Try.f37 σ K)) (unblock 0 e) T G))) (unblock 1 e) T G) (unblock 2 e) T G)) fun T G => wp (CZ σ) 2019 (sR (sR (lB (bB (sR (sR (sR (bB (sL (sR (lB (bB (sR (sL (sR (sR (sR law10_dear.code))))))))))))))))) T G (nx (fun e T G => (fun e T G => (nx (nx (fun e T G => (nx (fQ Try.f37 σ K) fun T G => wp (CZ σ) 2019 (sR (sR (sR (sR law10_dear.code)))) T G (fQ Try.f37 σ K)) (unblock 0 e) T G) fun T G => ∀ j, LoopP (CZ σ) (lB (bB (sR (sL (sR (sR (sR law10_dear.code))))))) (maskA 2019 j 0 T) G (fun e T G => (nx (fQ Try.f37 σ K) fun T G => wp (CZ σ) 2019 (sR (sR (sR (sR law10_dear.code)))) T G (fQ Try.f37 σ K)) (unblock 0 e) T G)) fun T G => wp (CZ σ) 2019 (sR (sR (lB (bB (sR (sL (sR (sR (sR law10_dear.code))))))))) T G (nx (fun e T G => (nx (fQ Try.f37 σ K) fun T G => wp (CZ σ) 2019 (sR (sR (sR (sR law10_dear.code)))) T G (fQ Try.f37 σ K)) (unblock 0 e) T G) fun T G => ∀ j, LoopP (CZ σ) (lB (bB (sR (sL (sR (sR (sR law10_dear.code))))))) (maskA 2019 j 0 T) G (fun e T G => (nx (fQ Try.f37 σ K) fun T G => wp (CZ σ) 2019 (sR (sR (sR (sR law10_dear.code)))) T G (fQ Try.f37 σ K)) (unblock 0 e) T G))) (unblock 1 e) T G) (unblock 2 e) T G) fun T G => ∀ j, LoopP (CZ σ) (lB (bB (sR (sR (sR (bB (sL (sR (lB (bB (sR (sL (sR (sR (sR law10_dear.code))))))))))))))) (maskA 2019 j 0 T) G (fun e T G => (fun e T G => (nx (nx (fun e T G => (nx (fQ Try.f37 σ K) fun T G => wp (CZ σ) 2019 (sR (sR (sR (sR law10_dear.code)))) T G (fQ Try.f37 σ K)) (unblock 0 e) T G) fun T G => ∀ j, LoopP (CZ σ) (lB (bB (sR (sL (sR (sR (sR law10_dear.code))))))) (maskA 2019 j 0 T) G (fun e T G => (nx (fQ Try.f37 σ K) fun T G => wp (CZ σ) 2019 (sR (sR (sR (sR law10_dear.code)))) T G (fQ Try.f37 σ K)) (unblock 0 e) T G)) fun T G => wp (CZ σ) 2019 (sR (sR (lB (bB (sR (sL (sR (sR (sR law10_dear.code))))))))) T G (nx (fun e T G => (nx (fQ Try.f37 σ K) fun T G => wp (CZ σ) 2019 (sR (sR (sR (sR law10_dear.code)))) T G (fQ Try.f37 σ K)) (unblock 0 e) T G) fun T G => ∀ j, LoopP (CZ σ) (lB (bB (sR (sL (sR (sR (sR law10_dear.code))))))) (maskA 2019 j 0 T) G (fun e T G => (nx (fQ Try.f37 σ K) fun T G => wp (CZ σ) 2019 (sR (sR (sR (sR law10_dear.code)))) T G (fQ Try.f37 σ K)) (unblock 0 e) T G))) (unblock 1 e) T G) (unblock 2 e) T G))) (unblock 3 e) T G) (unblock 4 e) T G)
theorem law10_dear.L0_step {y0 y1 y5 y6 y7 y8 y9 y10 : AV} (h : bnd (lenSl y0) fun x1 => bnd (binR .lss y6 x1) fun x2 => ifB x2 (bnd (binR .lss y5 (I 100)) fun x3 => ifB x3 (bnd (ixaSl 1 y0 y6) fun x4 => bnd (shiftA x4 0) fun x5 => bnd (ldA false 1 H x5) fun x6 => bnd (lenSl x6) fun x7 => bnd (binR .gtr x7 (I 12)) fun x8 => ifB x8 (bnd (lenSl x6) fun x9 => bnd (binR .lss x9 (I 50)) fun x10 => ifB x10 (K (I 100) H) (bnd (lenSl x6) fun x11 => bnd (binR .gtr x11 (I 60)) fun x12 => ifB x12 (K (I 100) H) (law10_dear.L1 σ K y0 y1 y5 y6 x6 (I 0) y9 y10 H))) (bnd (lenSl x6) fun x13 => bnd (binR .gtr x13 (I 60)) fun x14 => ifB x14 (K (I 100) H) (law10_dear.L1 σ K y0 y1 y5 y6 x6 (I 0) y9 y10 H))) (K y5 H)) (K y5 H)) : law10_dear.L0 σ K y0 y1 y5 y6 y7 y8 y9 y10 H :=
 fun j => lrd (g := 2019) (Eq.mpr (by kernel_rfl) h)
theorem law10_dear.L1_step {y0 y1 y5 y6 y7 y8 y9 y10 : AV} (h : bnd (lenSl y7) fun x1 => bnd (binR .lss y8 x1) fun x2 => ifB x2 (bnd (binR .lss y5 (I 100)) fun x3 => ifB x3 (bnd (ixaSl 6 y7 y8) fun x4 => bnd (shiftA x4 1) fun x5 => bnd (ldA true 5 H x5) fun x6 => allocK [.lit (.string ⟨#[]⟩), .lit (.slice none 0 0), .lit (.slice none 0 0), .lit (.slice none 0 0), .lit (.slice none 0 0)] H fun x7 H8 => bnd (stA 5 H8 x7 x6) fun H9 => bnd (binR .add y5 (I 1)) fun x10 => bnd (binR .add x10 y1) fun x11 => bnd (shiftA x7 1) fun x12 => bnd (ldA false 1 H9 x12) fun x13 => bnd (lenSl x13) fun x14 => bnd (binR .gtr x14 (I 5)) fun x15 => ifB x15 (K (I 100) H9) (bnd (shiftA x7 2) fun x16 => bnd (ldA false 1 H9 x16) fun x17 => bnd (lenSl x17) fun x18 => bnd (binR .gtr x18 (I 5)) fun x19 => ifB x19 (K (I 100) H9) (bnd (shiftA x7 3) fun x20 => bnd (ldA false 1 H9 x20) fun x21 => bnd (lenSl x21) fun x22 => bnd (binR .gtr x22 (I 5)) fun x23 => ifB x23 (K (I 100) H9) (bnd (shiftA x7 4) fun x24 => bnd (ldA false 1 H9 x24) fun x25 => bnd (lenSl x25) fun x26 => bnd (binR .gtr x26 (I 5)) fun x27 => ifB x27 (K (I 100) H9) (law10_dear.L2 σ K y0 y1 x11 y6 y7 y8 x7 (I 0) H9))))) (bnd (binR .add y6 (I 1)) fun x28 => law10_dear.L0 σ K y0 y1 y5 x28 y7 y8 y9 y10 H)) (bnd (binR .add y6 (I 1)) fun x29 => law10_dear.L0 σ K y0 y1 y5 x29 y7 y8 y9 y10 H)) : law10_dear.L1 σ K y0 y1 y5 y6 y7 y8 y9 y10 H :=
 fun j => lrd (g := 2019) (Eq.mpr (by kernel_rfl) h)
theorem law10_dear.L2_step {y0 y1 y5 y6 y7 y8 y9 y10 : AV} (h : bnd (shiftA y9 4) fun x1 => bnd (ldA false 1 H x1) fun x2 => bnd (lenSl x2) fun x3 => bnd (binR .lss y10 x3) fun x4 => ifB x4 (bnd (binR .lss y5 (I 100)) fun x5 => ifB x5 (bnd (shiftA y9 4) fun x6 => bnd (ldA false 1 H x6) fun x7 => bnd (ixaSl 4 x7 y10) fun x8 => bnd (shiftA x8 3) fun x9 => bnd (ldA false 1 H x9) fun x10 => bnd (binR .add y1 (I 1)) fun x11 => callK Try.prog σ n_law10_dear [x10, x11] H fun x12 H13 => bnd (binR .mul (I 3) x12) fun x14 => bnd (binR .add y5 x14) fun x15 => bnd (binR .add y10 (I 1)) fun x16 => law10_dear.L2 σ K y0 y1 x15 y6 y7 y8 y9 x16 H13) (bnd (binR .add y8 (I 1)) fun x17 => law10_dear.L1 σ K y0 y1 y5 y6 y7 x17 y9 y10 H)) (bnd (binR .add y8 (I 1)) fun x18 => law10_dear.L1 σ K y0 y1 y5 y6 y7 x18 y9 y10 H)) : law10_dear.L2 σ K y0 y1 y5 y6 y7 y8 y9 y10 H :=
 fun j => lrd (g := 2019) (Eq.mpr (by kernel_rfl) h)
theorem law10_dear.run {a0 a1 : AV} (h : bnd (binR .gtr a1 (I 10)) fun x1 => ifB x1 (K (I 100) H) (law10_dear.L0 σ K a0 a1 (I 0) (I 0) (.lit undef) (.lit undef) (.lit undef) (.lit undef) H)) : ∃ r H1, Good Try.prog σ n_law10_dear [a0, a1] H r H1 ∧ K r H1 :=
 gwp 2019 (fn := Try.f37) (f := n_law10_dear) (c := law10_dear.code) (by kernel_rfl) (by kernel_rfl) (Eq.mpr (by kernel_rfl) h)
noncomputable def ref9_lowered.code : Code := bodyOf Try.f38
noncomputable def ref9_lowered.L0 (σ : Sig) (K : AV → Hp → Prop) (y1 y2 y3 y4 : AV) (H : Hp) : Prop := ∀ j : Nat → AV, LoopP (CZ σ) (lB (bB (sR (sL (sR (sR (sR (sR ref9_lowered.code)))))))) ([j 0, y1, y2, y3, y4] ++ jr j 5 35) H (fun e T G => (nx (fQ Try.f38 σ K) fun T G => wp (CZ σ) 30 (sR (sR (sR (sR (sR ref9_lowered.code))))) T G (fQ Try.f38 σ K)) (unblock 0 e) T G)
theorem ref9_lowered.L0_step {y1 y2 y3 y4 : AV} (h : bnd (shiftA y1 4) fun x1 => bnd (ldA false 1 H x1) fun x2 => bnd (lenSl x2) fun x3 => bnd (binR .lss y4 x3) fun x4 => ifB x4 (bnd (shiftA y1 4) fun x5 => bnd (ldA false 1 H x5) fun x6 => bnd (ixaSl 2 x6 y4) fun x7 => bnd (shiftA x7 0) fun x8 => bnd (ldA false 1 H x8) fun x9 => callK Try.prog σ n_ref1_Lower [x9] H fun x10 H11 => bnd (shiftA y1 4) fun x12 => kpK (x12, some 1) H H11 (bnd (ldA false 1 H11 x12) fun x13 => bnd (ixaSl 2 x13 y4) fun x14 => bnd (shiftA x14 1) fun x15 => kpK (x15, some 1) H H11 (bnd (ldA false 1 H11 x15) fun x16 => bnd (bldR [.lit (.string ⟨#[]⟩), .lit (.string ⟨#[]⟩)] [(0, 1, x10), (1, 1, x16)]) fun l17 => bnd (bldSlR [.string ⟨#[]⟩, .string ⟨#[]⟩] 2 1 H11 [(0, 2, (.agg l17))]) fun p18 => bnd (appR false 2 32 p18.2 y3 p18.1) fun p19 => bnd (binR .add y4 (I 1)) fun x20 => ref9_lowered.L0 σ K y1 y2 p19.1 x20 p19.2))) (bnd (shiftA y1 4) fun x21 => bnd (stA 1 H x21 y3) fun H22 => bnd (ldA true 5 H22 y1) fun x23 => bnd (stA 5 H22 y2 x23) fun H24 => bnd (ldA true 5 H24 y2) fun r25 => K r25 H24)) : ref9_lowered.L0 σ K y1 y2 y3 y4 H :=
 fun j => lrd (g := 30) (Eq.mpr (by kernel_rfl) h)
theorem ref9_lowered.run {a0 : AV} (h : boxK a0 H fun x1 H2 => allocK [I 0, .lit (.string ⟨#[]⟩), .lit (.string ⟨#[]⟩), .lit (.slice none 0 0), .lit (.slice none 0 0)] H2 fun x3 H4 => bnd (shiftA x1 1) fun x5 => bnd (ldA false 1 H4 x5) fun x6 => callK Try.prog σ n_ref1_Lower [x6] H4 fun x7 H8 => bnd (shiftA x1 1) fun x9 => bnd (stA 1 H8 x9 x7) fun H10 => bnd (shiftA x1 3) fun x11 => bnd (ldA false 1 H10 x11) fun x12 => bnd (appR false 1 16 H10 (.lit (.slice none 0 0)) x12) fun p13 => bnd (shiftA x1 3) fun x14 => bnd (stA 1 p13.2 x14 p13.1) fun H15 => ref9_lowered.L0 σ K x1 x3 (.lit (.slice none 0 0)) (I 0) H15) : ∃ r H1, Good Try.prog σ n_ref9_lowered [a0] H r H1 ∧ K r H1 :=
 gwp 30 (fn := Try.f38) (f := n_ref9_lowered) (c := ref9_lowered.code) (by kernel_rfl) (by kernel_rfl) (Eq.mpr (by kernel_rfl) h)
noncomputable def ref9_Tree_is.code : Code := bodyOf Try.f39
theorem ref9_Tree_is.run {a0 a1 : AV} (h : bnd (eqPtrR .neq a0 (.lit (.pointer none))) fun x1 => ifB x1 (bnd (binR .geq a1 (I 0)) fun x2 => ifB x2 (bnd (nilR a0) fun x3 => bnd (shiftA x3 0) fun x4 => bnd (ldA false 1 H x4) fun x5 => bnd (lenSl x5) fun x6 => bnd (binR .lss a1 x6) fun x7 => K x7 H) (K (Bo false) H)) (K (Bo false) H)) : ∃ r H1, Good Try.prog σ n_ref9_Tree_is [a0, a1] H r H1 ∧ K r H1 :=
 gwp 0 (fn := Try.f39) (f := n_ref9_Tree_is) (c := ref9_Tree_is.code) (by kernel_rfl) (by kernel_rfl) (Eq.mpr (by kernel_rfl) h)
noncomputable def ref9_DeepSel.code : Code := bodyOf Try.f41
noncomputable def ref9_DeepSel.L0 (σ : Sig) (K : AV → Hp → Prop) (y1 y2 y5 : AV) (H : Hp) : Prop := ∀ j : Nat → AV, LoopP (CZ σ) (lB (bB (sR (sL (sR (sR ref9_DeepSel.code)))))) ([j 0, y1, y2, j 3, j 4, y5] ++ jr j 6 21) H (fun e T G => (nx (fQ Try.f41 σ K) fun T G => wp (CZ σ) 38 (sR (sR (sR ref9_DeepSel.code))) T G (fQ Try.f41 σ K)) (unblock 0 e) T G)
theorem ref9_DeepSel.L0_step {y1 y2 y5 : AV} (h : bnd (shiftA y2 0) fun x1 => bnd (ldA false 1 H x1) fun x2 => bnd (lenSl x2) fun x3 => bnd (binR .lss y5 x3) fun x4 => ifB x4 (bnd (shiftA y2 0) fun x5 => bnd (ldA false 1 H x5) fun x6 => bnd (ixaSl 6 x6 y5) fun x7 => bnd (shiftA x7 1) fun x8 => bnd (ldA true 5 H x8) fun x9 => callK Try.prog σ n_ref9_Deep [x9, y1] H fun x10 H11 => ifB x10 (K (Bo true) H11) (bnd (binR .add y5 (I 1)) fun x12 => ref9_DeepSel.L0 σ K y1 y2 x12 H11)) (K (Bo false) H)) : ref9_DeepSel.L0 σ K y1 y2 y5 H :=
 fun j => lrd (g := 38) (Eq.mpr (by kernel_rfl) h)
theorem ref9_DeepSel.run {a0 a1 : AV} (h : boxK a0 H fun x1 H2 => bnd (shiftA x1 0) fun x3 => bnd (ldA false 1 H2 x3) fun x4 => bnd (lenSl x4) fun x5 => bnd (binR .gtr x5 (I 50)) fun x6 => ifB x6 (K (Bo true) H2) (ref9_DeepSel.L0 σ K a1 x1 (I 0) H2)) : ∃ r H1, Good Try.prog σ n_ref9_DeepSel [a0, a1] H r H1 ∧ K r H1 :=
 gwp 38 (fn := Try.f41) (f := n_ref9_DeepSel) (c := ref9_DeepSel.code) (by kernel_rfl) (by kernel_rfl) (Eq.mpr (by kernel_rfl) h)
noncomputable def ref9_Tree_selector.code : Code := bodyOf Try.f42
theorem ref9_Tree_selector.run {a0 a1 a2 a3 : AV} (h : boxK a2 H fun x1 H2 => callK Try.prog σ n_ref9_Tree_is [a0, a1] H2 fun x3 H4 => bnd (unR .not x3) fun x5 => ifB x5 (K (Bo false) H4) (bnd (shiftA x1 0) fun x6 => bnd (ldA false 1 H4 x6) fun x7 => bnd (lenSl x7) fun x8 => bnd (binR .eql x8 (I 0)) fun x9 => ifB x9 (K (Bo false) H4) (bnd (nilR a0) fun x10 => bnd (shiftA x10 0) fun x11 => bnd (ldA false 1 H4 x11) fun x12 => bnd (lenSl x12) fun x13 => bnd (shiftA x1 0) fun x14 => bnd (ldA false 1 H4 x14) fun x15 => bnd (lenSl x15) fun x16 => bnd (binR .mul x13 x16) fun x17 => bnd (mkSlR [.int .i64 0] 1 8 H4 x17 x17) fun p18 => bnd (ldA true 1 p18.2 x1) fun x19 => bnd (shiftA x1 0) fun x20 => bnd (ldA false 1 p18.2 x20) fun x21 => bnd (lenSl x21) fun x22 => callK Try.prog σ n_ref9_Tree_front [a0, a1, x19, x22, a3, p18.1] p18.2 fun x23 H24 => K x23 H24))) : ∃ r H1, Good Try.prog σ n_ref9_Tree_selector [a0, a1, a2, a3] H r H1 ∧ K r H1 :=
 gwp 0 (fn := Try.f42) (f := n_ref9_Tree_selector) (c := ref9_Tree_selector.code) (by kernel_rfl) (by kernel_rfl) (Eq.mpr (by kernel_rfl) h)
noncomputable def reval_kept_api_Selector.code : Code := bodyOf Try.f44
noncomputable def reval_kept_api_Selector.L0 (σ : Sig) (K : AV → Hp → Prop) (y1 y5 y8 y9 y10 : AV) (H : Hp) : Prop := ∀ j : Nat → AV, LoopP (CZ σ) (lB (bB (sR (sL (sR (sR reval_kept_api_Selector.code)))))) ([j 0, y1, j 2, j 3, j 4, y5, j 6, j 7, y8, y9, y10] ++ jr j 11 12) H (fun e T G => (nx (fQ Try.f44 σ K) fun T G => wp (CZ σ) 1826 (sR (sR (sR reval_kept_api_Selector.code))) T G (fQ Try.f44 σ K)) (unblock 0 e) T G)
noncomputable def reval_kept_api_Selector.J1 (σ : Sig) (K : AV → Hp → Prop) (y1 y5 y8 y9 y10 : AV) (H : Hp) : Prop := ∀ j : Nat → AV, wp (CZ σ) 1826 (sR (sR (sR (lB (bB (sR (sL (sR (sR reval_kept_api_Selector.code))))))))) ([j 0, y1, j 2, j 3, j 4, y5, j 6, j 7, y8, y9, y10] ++ jr j 11 12) H (nx (fun e T G => (nx (fQ Try.f44 σ K) fun T G => wp (CZ σ) 1826 (sR (sR (sR reval_kept_api_Selector.code))) T G (fQ Try.f44 σ K)) (unblock 0 e) T G) fun T G => ∀ j, LoopP (CZ σ) (lB (bB (sR (sL (sR (sR reval_kept_api_Selector.code)))))) (maskA 1826 j 0 T) G (fun e T G => (nx (fQ Try.f44 σ K) fun T G => wp (CZ σ) 1826 (sR (sR (sR reval_kept_api_Selector.code))) T G (fQ Try.f44 σ K)) (unblock 0 e) T G))
theorem reval_kept_api_Selector.L0_step {y1 y5 y8 y9 y10 : AV} (h : bnd (binR .lss y10 y9) fun x1 => ifB x1 (bnd (ixaSl 1 y8 y10) fun x2 => bnd (ldA true 1 H x2) fun x3 => allocK [.lit (.slice none 0 0)] H fun x4 H5 => bnd (stA 1 H5 x4 x3) fun H6 => bnd (ldA true 1 H6 x4) fun x7 => callV Try.prog σ y1 [x7] H6 fun x8 H9 => ifB x8 (bnd (ldA true 1 H9 x4) fun x10 => bnd (bldSlR [.slice none 0 0] 1 1 H9 [(0, 1, x10)]) fun p11 => bnd (appR false 1 24 p11.2 y5 p11.1) fun p12 => reval_kept_api_Selector.J1 σ K y1 p12.1 y8 y9 y10 p12.2) (reval_kept_api_Selector.J1 σ K y1 y5 y8 y9 y10 H9)) (K y5 H)) : reval_kept_api_Selector.L0 σ K y1 y5 y8 y9 y10 H :=
 fun j => lrd (g := 1826) (Eq.mpr (by kernel_rfl) h)
theorem reval_kept_api_Selector.J1_step {y1 y5 y8 y9 y10 : AV} (h : bnd (binR .add y10 (I 1)) fun x1 => reval_kept_api_Selector.L0 σ K y1 y5 y8 y9 x1 H) : reval_kept_api_Selector.J1 σ K y1 y5 y8 y9 y10 H :=
 fun j => Eq.mpr (by kernel_rfl) h
theorem reval_kept_api_Selector.run {a0 a1 : AV} (h : bnd (lenSl a0) fun x1 => reval_kept_api_Selector.L0 σ K a1 (.lit (.slice none 0 0)) a0 x1 (I 0) H) : ∃ r H1, Good Try.prog σ n_reval_kept_api_Selector [a0, a1] H r H1 ∧ K r H1 :=
 gwp 1826 (fn := Try.f44) (f := n_reval_kept_api_Selector) (c := reval_kept_api_Selector.code) (by kernel_rfl) (by kernel_rfl) (Eq.mpr (by kernel_rfl) h)
noncomputable def dom_New.code : Code := bodyOf Try.f51
noncomputable def dom_New.L0 (σ : Sig) (K : AV → Hp → Prop) (y4 y13 y14 y15 : AV) (H : Hp) : Prop := ∀ j : Nat → AV, LoopP (CZ σ) (lB (bB (sR (sL (sR (sR (sR dom_New.code))))))) ([j 0, j 1, j 2, j 3, y4, j 5, j 6, j 7, j 8, j 9, j 10, j 11, j 12, y13, y14, y15] ++ jr j 16 11) H (fun e T G => (nx (fQ Try.f51 σ K) fun T G => wp (CZ σ) 57360 (sR (sR (sR (sR dom_New.code)))) T G (fQ Try.f51 σ K)) (unblock 0 e) T G)
theorem dom_New.L0_step {y4 y13 y14 y15 : AV} (h : bnd (binR .lss y15 y14) fun x1 => ifB x1 (bnd (ixaSl 5 y13 y15) fun x2 => bnd (ldA true 5 H x2) fun x3 => allocK [I 0, .lit (.string ⟨#[]⟩), .lit (.string ⟨#[]⟩), .lit (.slice none 0 0), .lit (.slice none 0 0)] H fun x4 H5 => bnd (stA 5 H5 x4 x3) fun H6 => bnd (ldA true 5 H6 x4) fun x7 => callK Try.prog σ n_dom_Tree_put [y4, x7] H6 fun x8 H9 => bnd (binR .neq x8 (I 0)) fun x10 => ifB x10 (K (.tup [(.lit (.pointer none)), x8]) H9) (bnd (binR .add y15 (I 1)) fun x11 => dom_New.L0 σ K y4 y13 y14 x11 H9)) (K (.tup [y4, (I 0)]) H)) : dom_New.L0 σ K y4 y13 y14 y15 H :=
 fun j => lrd (g := 57360) (Eq.mpr (by kernel_rfl) h)
theorem dom_New.run {a0 : AV} (h : bnd (lenSl a0) fun x1 => bnd (binR .gtr x1 (I 4096)) fun x2 => ifB x2 (K (.tup [(.lit (.pointer none)), (I 3)]) H) (bnd (bldR [.lit (.slice none 0 0)] []) fun l3 => boxK (.agg l3) H fun x4 H5 => bnd (lenSl a0) fun x6 => dom_New.L0 σ K x4 a0 x6 (I 0) H5)) : ∃ r H1, Good Try.prog σ n_dom_New [a0] H r H1 ∧ K r H1 :=
 gwp 57360 (fn := Try.f51) (f := n_dom_New) (c := dom_New.code) (by kernel_rfl) (by kernel_rfl) (Eq.mpr (by kernel_rfl) h)
noncomputable def ref9_Needs.code : Code := bodyOf Try.f52
noncomputable def ref9_Needs.L0 (σ : Sig) (K : AV → Hp → Prop) (y1 y3 : AV) (H : Hp) : Prop := ∀ j : Nat → AV, LoopP (CZ σ) (lB (bB (sR (sL (sR ref9_Needs.code))))) ([j 0, y1, j 2, y3] ++ jr j 4 39) H (fun e T G => (nx (fQ Try.f52 σ K) fun T G => wp (CZ σ) 10 (sR (sR ref9_Needs.code)) T G (fQ Try.f52 σ K)) (unblock 0 e) T G)
theorem ref9_Needs.L0_step {y1 y3 : AV} (h : bnd (shiftA y1 0) fun x1 => bnd (ldA false 1 H x1) fun x2 => bnd (lenSl x2) fun x3 => bnd (binR .lss y3 x3) fun x4 => ifB x4 (bnd (shiftA y1 0) fun x5 => bnd (ldA false 1 H x5) fun x6 => bnd (ixaSl 6 x6 y3) fun x7 => bnd (shiftA x7 1) fun x8 => bnd (ldA true 5 H x8) fun x9 => allocK [.lit (.string ⟨#[]⟩), .lit (.slice none 0 0), .lit (.slice none 0 0), .lit (.slice none 0 0), .lit (.slice none 0 0)] H fun x10 H11 => bnd (stA 5 H11 x10 x9) fun H12 => bnd (shiftA y1 0) fun x13 => bnd (ldA false 1 H12 x13) fun x14 => bnd (ixaSl 6 x14 y3) fun x15 => bnd (shiftA x15 0) fun x16 => bnd (ldA false 1 H12 x16) fun x17 => bnd (shiftA x10 3) fun x18 => bnd (ldA false 1 H12 x18) fun x19 => bnd (lenSl x19) fun x20 => bnd (binR .gtr x20 (I 0)) fun x21 => ifB x21 (K (Bo true) H12) (bnd (shiftA x10 4) fun x22 => bnd (ldA false 1 H12 x22) fun x23 => bnd (lenSl x23) fun x24 => bnd (binR .gtr x24 (I 0)) fun x25 => ifB x25 (K (Bo true) H12) (bnd (binR .eql x17 (I 3)) fun x26 => ifB x26 (K (Bo true) H12) (bnd (binR .eql x17 (I 4)) fun x27 => ifB x27 (K (Bo true) H12) (bnd (binR .add y3 (I 1)) fun x28 => ref9_Needs.L0 σ K y1 x28 H12))))) (K (Bo false) H)) : ref9_Needs.L0 σ K y1 y3 H :=
 fun j => lrd (g := 10) (Eq.mpr (by kernel_rfl) h)
theorem ref9_Needs.run {a0 : AV} (h : boxK a0 H fun x1 H2 => ref9_Needs.L0 σ K x1 (I 0) H2) : ∃ r H1, Good Try.prog σ n_ref9_Needs [a0] H r H1 ∧ K r H1 :=
 gwp 10 (fn := Try.f52) (f := n_ref9_Needs) (c := ref9_Needs.code) (by kernel_rfl) (by kernel_rfl) (Eq.mpr (by kernel_rfl) h)
noncomputable def dom_Tree_Parent.code : Code := bodyOf Try.f53
theorem dom_Tree_Parent.run {a0 a1 : AV} (h : bnd (binR .lss a1 (I 0)) fun x1 => ifB x1 (K (I (-1)) H) (bnd (nilR a0) fun x2 => bnd (shiftA x2 0) fun x3 => bnd (ldA false 1 H x3) fun x4 => bnd (lenSl x4) fun x5 => bnd (binR .geq a1 x5) fun x6 => ifB x6 (K (I (-1)) H) (bnd (nilR a0) fun x7 => bnd (shiftA x7 0) fun x8 => bnd (ldA false 1 H x8) fun x9 => bnd (ixaSl 9 x9 a1) fun x10 => bnd (shiftA x10 0) fun x11 => bnd (shiftA x11 0) fun x12 => bnd (ldA false 1 H x12) fun x13 => K x13 H))) : ∃ r H1, Good Try.prog σ n_dom_Tree_Parent [a0, a1] H r H1 ∧ K r H1 :=
 gwp 0 (fn := Try.f53) (f := n_dom_Tree_Parent) (c := dom_Tree_Parent.code) (by kernel_rfl) (by kernel_rfl) (Eq.mpr (by kernel_rfl) h)
noncomputable def dom_Tree_Node.code : Code := bodyOf Try.f54
theorem dom_Tree_Node.run {a0 a1 : AV} (h : allocK [I 0, .lit (.string ⟨#[]⟩), .lit (.string ⟨#[]⟩), .lit (.slice none 0 0), .lit (.slice none 0 0)] H fun x1 H2 => callK Try.prog σ n_dom_Tree_at [a0, a1] H2 fun x3 H4 => bnd (partR true 0 5 x3) fun x5 => callK Try.prog σ n_dom_copied [x5] H4 fun x6 H7 => bnd (stA 5 H7 x1 x6) fun H8 => bnd (ldA true 5 H8 x1) fun r9 => K r9 H8) : ∃ r H1, Good Try.prog σ n_dom_Tree_Node [a0, a1] H r H1 ∧ K r H1 :=
 gwp 0 (fn := Try.f54) (f := n_dom_Tree_Node) (c := dom_Tree_Node.code) (by kernel_rfl) (by kernel_rfl) (Eq.mpr (by kernel_rfl) h)
noncomputable def slices_Equal_string_string.code : Code := bodyOf Try.f55
noncomputable def slices_Equal_string_string.L0 (σ : Sig) (K : AV → Hp → Prop) (y0 y1 y12 y13 : AV) (H : Hp) : Prop := ∀ j : Nat → AV, LoopP (CZ σ) (lB (bB (sR (sL (sR (sR slices_Equal_string_string.code)))))) ([y0, y1, j 2, j 3, j 4, j 5, j 6, j 7, j 8, j 9, j 10, j 11, y12, y13] ++ jr j 14 12) H (fun e T G => (nx (fQ Try.f55 σ K) fun T G => wp (CZ σ) 12291 (sR (sR (sR slices_Equal_string_string.code))) T G (fQ Try.f55 σ K)) (unblock 0 e) T G)
theorem slices_Equal_string_string.L0_step {y0 y1 y12 y13 : AV} (h : bnd (binR .lss y13 y12) fun x1 => ifB x1 (bnd (ixaSl 1 y0 y13) fun x2 => bnd (ldA false 1 H x2) fun x3 => bnd (ixaSl 1 y1 y13) fun x4 => bnd (ldA false 1 H x4) fun x5 => bnd (binR .neq x3 x5) fun x6 => ifB x6 (K (Bo false) H) (bnd (binR .add y13 (I 1)) fun x7 => slices_Equal_string_string.L0 σ K y0 y1 y12 x7 H)) (K (Bo true) H)) : slices_Equal_string_string.L0 σ K y0 y1 y12 y13 H :=
 fun j => lrd (g := 12291) (Eq.mpr (by kernel_rfl) h)
theorem slices_Equal_string_string.run {a0 a1 : AV} (h : bnd (lenSl a0) fun x1 => bnd (lenSl a1) fun x2 => bnd (binR .neq x1 x2) fun x3 => ifB x3 (K (Bo false) H) (bnd (lenSl a0) fun x4 => slices_Equal_string_string.L0 σ K a0 a1 x4 (I 0) H)) : ∃ r H1, Good Try.prog σ n_slices_Equal_string_string [a0, a1] H r H1 ∧ K r H1 :=
 gwp 12291 (fn := Try.f55) (f := n_slices_Equal_string_string) (c := slices_Equal_string_string.code) (by kernel_rfl) (by kernel_rfl) (Eq.mpr (by kernel_rfl) h)
noncomputable def slices_Equal_bool_bool.code : Code := bodyOf Try.f56
noncomputable def slices_Equal_bool_bool.L0 (σ : Sig) (K : AV → Hp → Prop) (y0 y1 y12 y13 : AV) (H : Hp) : Prop := ∀ j : Nat → AV, LoopP (CZ σ) (lB (bB (sR (sL (sR (sR slices_Equal_bool_bool.code)))))) ([y0, y1, j 2, j 3, j 4, j 5, j 6, j 7, j 8, j 9, j 10, j 11, y12, y13] ++ jr j 14 12) H (fun e T G => (nx (fQ Try.f56 σ K) fun T G => wp (CZ σ) 12291 (sR (sR (sR slices_Equal_bool_bool.code))) T G (fQ Try.f56 σ K)) (unblock 0 e) T G)
theorem slices_Equal_bool_bool.L0_step {y0 y1 y12 y13 : AV} (h : bnd (binR .lss y13 y12) fun x1 => ifB x1 (bnd (ixaSl 1 y0 y13) fun x2 => bnd (ldA false 1 H x2) fun x3 => bnd (ixaSl 1 y1 y13) fun x4 => bnd (ldA false 1 H x4) fun x5 => bnd (eqBoolR .neq x3 x5) fun x6 => ifB x6 (K (Bo false) H) (bnd (binR .add y13 (I 1)) fun x7 => slices_Equal_bool_bool.L0 σ K y0 y1 y12 x7 H)) (K (Bo true) H)) : slices_Equal_bool_bool.L0 σ K y0 y1 y12 y13 H :=
 fun j => lrd (g := 12291) (Eq.mpr (by kernel_rfl) h)
theorem slices_Equal_bool_bool.run {a0 a1 : AV} (h : bnd (lenSl a0) fun x1 => bnd (lenSl a1) fun x2 => bnd (binR .neq x1 x2) fun x3 => ifB x3 (K (Bo false) H) (bnd (lenSl a0) fun x4 => slices_Equal_bool_bool.L0 σ K a0 a1 x4 (I 0) H)) : ∃ r H1, Good Try.prog σ n_slices_Equal_bool_bool [a0, a1] H r H1 ∧ K r H1 :=
 gwp 12291 (fn := Try.f56) (f := n_slices_Equal_bool_bool) (c := slices_Equal_bool_bool.code) (by kernel_rfl) (by kernel_rfl) (Eq.mpr (by kernel_rfl) h)
noncomputable def reval_Bits.code : Code := bodyOf Try.f57
noncomputable def reval_Bits.L0 (σ : Sig) (K : AV → Hp → Prop) (y0 y1 y7 y13 y14 y15 : AV) (H : Hp) : Prop := ∀ j : Nat → AV, LoopP (CZ σ) (lB (bB (sR (sL (sR (sR reval_Bits.code)))))) ([y0, y1, j 2, j 3, j 4, j 5, j 6, y7, j 8, j 9, j 10, j 11, j 12, y13, y14, y15] ++ jr j 16 13) H (fun e T G => (nx (fQ Try.f57 σ K) fun T G => wp (CZ σ) 57475 (sR (sR (sR reval_Bits.code))) T G (fQ Try.f57 σ K)) (unblock 0 e) T G)
theorem reval_Bits.L0_step {y0 y1 y7 y13 y14 y15 : AV} (h : bnd (binR .lss y15 y14) fun x1 => ifB x1 (bnd (ixaSl 1 y13 y15) fun x2 => bnd (ldA true 1 H x2) fun x3 => allocK [.lit (.slice none 0 0)] H fun x4 H5 => bnd (stA 1 H5 x4 x3) fun H6 => bnd (ldA true 1 H6 x4) fun x7 => callK Try.prog σ n_match_Selector [y0, y1, x7] H6 fun x8 H9 => bnd (ixaSl 1 y7 y15) fun x10 => bnd (stA 1 H9 x10 x8) fun H11 => bnd (binR .add y15 (I 1)) fun x12 => reval_Bits.L0 σ K y0 y1 y7 y13 y14 x12 H11) (K y7 H)) : reval_Bits.L0 σ K y0 y1 y7 y13 y14 y15 H :=
 fun j => lrd (g := 57475) (Eq.mpr (by kernel_rfl) h)
theorem reval_Bits.run {a0 a1 a2 : AV} (h : bnd (lenSl a2) fun x1 => bnd (mkSlR [.bool false] 1 1 H x1 x1) fun p2 => bnd (lenSl a2) fun x3 => reval_Bits.L0 σ K a0 a1 p2.1 a2 x3 (I 0) p2.2) : ∃ r H1, Good Try.prog σ n_reval_Bits [a0, a1, a2] H r H1 ∧ K r H1 :=
 gwp 57475 (fn := Try.f57) (f := n_reval_Bits) (c := reval_Bits.code) (by kernel_rfl) (by kernel_rfl) (Eq.mpr (by kernel_rfl) h)
noncomputable def ref9_SameBits.code : Code := bodyOf Try.f58
noncomputable def ref9_SameBits.L0 (σ : Sig) (K : AV → Hp → Prop) (y0 y1 y5 : AV) (H : Hp) : Prop := ∀ j : Nat → AV, LoopP (CZ σ) (lB (bB (sR (sL (sR (sR ref9_SameBits.code)))))) ([y0, y1, j 2, j 3, j 4, y5] ++ jr j 6 20) H (fun e T G => (nx (fQ Try.f58 σ K) fun T G => wp (CZ σ) 35 (sR (sR (sR ref9_SameBits.code))) T G (fQ Try.f58 σ K)) (unblock 0 e) T G)
theorem ref9_SameBits.L0_step {y0 y1 y5 : AV} (h : bnd (lenSl y0) fun x1 => bnd (binR .lss y5 x1) fun x2 => ifB x2 (bnd (ixaSl 1 y0 y5) fun x3 => bnd (ldA false 1 H x3) fun x4 => bnd (ixaSl 1 y1 y5) fun x5 => bnd (ldA false 1 H x5) fun x6 => bnd (eqBoolR .neq x4 x6) fun x7 => ifB x7 (K (Bo false) H) (bnd (binR .add y5 (I 1)) fun x8 => ref9_SameBits.L0 σ K y0 y1 x8 H)) (K (Bo true) H)) : ref9_SameBits.L0 σ K y0 y1 y5 H :=
 fun j => lrd (g := 35) (Eq.mpr (by kernel_rfl) h)
theorem ref9_SameBits.run {a0 a1 : AV} (h : bnd (lenSl a0) fun x1 => bnd (lenSl a1) fun x2 => bnd (binR .neq x1 x2) fun x3 => ifB x3 (K (Bo false) H) (ref9_SameBits.L0 σ K a0 a1 (I 0) H)) : ∃ r H1, Good Try.prog σ n_ref9_SameBits [a0, a1] H r H1 ∧ K r H1 :=
 gwp 35 (fn := Try.f58) (f := n_ref9_SameBits) (c := ref9_SameBits.code) (by kernel_rfl) (by kernel_rfl) (Eq.mpr (by kernel_rfl) h)
noncomputable def ref9_Tree_Best.code : Code := bodyOf Try.f60
noncomputable def ref9_Tree_Best.L0 (σ : Sig) (K : AV → Hp → Prop) (y0 y1 y2 y8 y9 y10 : AV) (H : Hp) : Prop := ∀ j : Nat → AV, LoopP (CZ σ) (lB (bB (sR (sL (sR (sR (sR ref9_Tree_Best.code))))))) ([y0, y1, y2, j 3, j 4, j 5, j 6, j 7, y8, y9, y10] ++ jr j 11 31) H (fun e T G => (nx (fQ Try.f60 σ K) fun T G => wp (CZ σ) 1799 (sR (sR (sR (sR ref9_Tree_Best.code)))) T G (fQ Try.f60 σ K)) (unblock 0 e) T G)
noncomputable def ref9_Tree_Best.J1 (σ : Sig) (K : AV → Hp → Prop) (y0 y1 y2 y8 y9 y10 : AV) (H : Hp) : Prop := ∀ j : Nat → AV, wp (CZ σ) 1799 (sR (sR (cT (sR (sR (bB (sL (sR (lB (bB (sR (sL (sR (sR (sR ref9_Tree_Best.code))))))))))))))) ([y0, y1, y2, j 3, j 4, j 5, j 6, j 7, y8, y9, y10] ++ jr j 11 31) H (fun e T G => (nx (nx (fun e T G => (nx (fQ Try.f60 σ K) fun T G => wp (CZ σ) 1799 (sR (sR (sR (sR ref9_Tree_Best.code)))) T G (fQ Try.f60 σ K)) (unblock 0 e) T G) fun T G => ∀ j, LoopP (CZ σ) (lB (bB (sR (sL (sR (sR (sR ref9_Tree_Best.code))))))) (maskA 1799 j 0 T) G (fun e T G => (nx (fQ Try.f60 σ K) fun T G => wp (CZ σ) 1799 (sR (sR (sR (sR ref9_Tree_Best.code)))) T G (fQ Try.f60 σ K)) (unblock 0 e) T G)) fun T G => ∀ j, wp (CZ σ) 1799 (sR (sR (lB (bB (sR (sL (sR (sR (sR ref9_Tree_Best.code))))))))) (maskA 1799 j 0 T) G (nx (fun e T G => (nx (fQ Try.f60 σ K) fun T G => wp (CZ σ) 1799 (sR (sR (sR (sR ref9_Tree_Best.code)))) T G (fQ Try.f60 σ K)) (unblock 0 e) T G) fun T G => ∀ j, LoopP (CZ σ) (lB (bB (sR (sL (sR (sR (sR ref9_Tree_Best.code))))))) (maskA 1799 j 0 T) G (fun e T G => (nx (fQ Try.f60 σ K) fun T G => wp (CZ σ) 1799 (sR (sR (sR (sR ref9_Tree_Best.code)))) T G (fQ Try.f60 σ K)) (unblock 0 e) T G))) (unblock 1 e) T G)
noncomputable def ref9_Tree_Best.J2 (σ : Sig) (K : AV → Hp → Prop) (y0 y1 y2 y8 y9 y10 : AV) (H : Hp) : Prop := ∀ j : Nat → AV, wp (CZ σ) 1799 (sR (sR (lB (bB (sR (sL (sR (sR (sR ref9_Tree_Best.code))))))))) ([y0, y1, y2, j 3, j 4, j 5, j 6, j 7, y8, y9, y10] ++ jr j 11 31) H (nx (fun e T G => (nx (fQ Try.f60 σ K) fun T G => wp (CZ σ) 1799 (sR (sR (sR (sR ref9_Tree_Best.code)))) T G (fQ Try.f60 σ K)) (unblock 0 e) T G) fun T G => ∀ j, LoopP (CZ σ) (lB (bB (sR (sL (sR (sR (sR ref9_Tree_Best.code))))))) (maskA 1799 j 0 T) G (fun e T G => (nx (fQ Try.f60 σ K) fun T G => wp (CZ σ) 1799 (sR (sR (sR (sR ref9_Tree_Best.code)))) T G (fQ Try.f60 σ K)) (unblock 0 e) T G))
theorem ref9_Tree_Best.L0_step {y0 y1 y2 y8 y9 y10 : AV} (h : bnd (lenSl y2) fun x1 => bnd (binR .lss y10 x1) fun x2 => ifB x2 (bnd (ixaSl 1 y2 y10) fun x3 => bnd (ldA true 1 H x3) fun x4 => callK Try.prog σ n_ref9_Tree_Selector [y0, y1, x4] H fun x5 H6 => ifB x5 (bnd (ixaSl 1 y2 y10) fun x7 => bnd (ldA true 1 H6 x7) fun x8 => callK Try.prog σ n_ref9_Weight [x8] H6 fun x9 H10 => bnd (unR .not y9) fun x11 => ifB x11 (ref9_Tree_Best.J1 σ K y0 y1 y2 x9 y9 y10 H10) (bnd (binR .gtr x9 y8) fun x12 => ifB x12 (ref9_Tree_Best.J1 σ K y0 y1 y2 x9 y9 y10 H10) (ref9_Tree_Best.J1 σ K y0 y1 y2 y8 y9 y10 H10))) (ref9_Tree_Best.J2 σ K y0 y1 y2 y8 y9 y10 H6)) (K (.tup [y8, y9]) H)) : ref9_Tree_Best.L0 σ K y0 y1 y2 y8 y9 y10 H :=
 fun j => lrd (g := 1799) (Eq.mpr (by kernel_rfl) h)
theorem ref9_Tree_Best.J1_step {y0 y1 y2 y8 y9 y10 : AV} (h : ref9_Tree_Best.J2 σ K y0 y1 y2 y8 (Bo true) y10 H) : ref9_Tree_Best.J1 σ K y0 y1 y2 y8 y9 y10 H :=
 fun j => Eq.mpr (by kernel_rfl) h
theorem ref9_Tree_Best.J2_step {y0 y1 y2 y8 y9 y10 : AV} (h : bnd (binR .add y10 (I 1)) fun x1 => ref9_Tree_Best.L0 σ K y0 y1 y2 y8 y9 x1 H) : ref9_Tree_Best.J2 σ K y0 y1 y2 y8 y9 y10 H :=
 fun j => Eq.mpr (by kernel_rfl) h
theorem ref9_Tree_Best.run {a0 a1 a2 : AV} (h : ref9_Tree_Best.L0 σ K a0 a1 a2 (I 0) (Bo false) (I 0) H) : ∃ r H1, Good Try.prog σ n_ref9_Tree_Best [a0, a1, a2] H r H1 ∧ K r H1 :=
 gwp 1799 (fn := Try.f60) (f := n_ref9_Tree_Best) (c := ref9_Tree_Best.code) (by kernel_rfl) (by kernel_rfl) (Eq.mpr (by kernel_rfl) h)
end Go.Proofs.Ytaoegkmfgfefgaa.Ev
