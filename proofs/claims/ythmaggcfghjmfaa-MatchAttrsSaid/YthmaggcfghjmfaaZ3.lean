/- The walks, part 3: the evaluator, the functions, the laws. Conditions: none. -/
import Derived.Lib.Index
import Derived.Lib.Strings
import Derived.Test.YthmaggcfghjmfaaProg
import Derived.Test.YthmaggcfghjmfaaZ2
namespace Go.Proofs.Ythmaggcfghjmfaa.Ev
set_option linter.unusedVariables false
set_option linter.unusedSimpArgs false
structure At where
  name : ByteArray
  op : Int
  text : ByteArray
mutual
inductive Pt where
  | mk (comb : Int) (c : Cp)
inductive Cp where
  | mk (tag : ByteArray) (ids classes : List ByteArray) (attrs : List At) (pseudos : List Ps)
inductive Ps where
  | mk (kind a b : Int) (list : List (List Pt))
end
def Pt.comb : Pt → Int | .mk k _ => k
def Pt.c : Pt → Cp | .mk _ c => c
def Cp.tag : Cp → ByteArray | .mk t _ _ _ _ => t
def Cp.ids : Cp → List ByteArray | .mk _ i _ _ _ => i
def Cp.classes : Cp → List ByteArray | .mk _ _ c _ _ => c
def Cp.attrs : Cp → List At | .mk _ _ _ a _ => a
def Cp.pseudos : Cp → List Ps | .mk _ _ _ _ p => p
def Ps.kind : Ps → Int | .mk k _ _ _ => k
def Ps.a : Ps → Int | .mk _ a _ _ => a
def Ps.b : Ps → Int | .mk _ _ b _ => b
def Ps.list : Ps → List (List Pt) | .mk _ _ _ l => l
abbrev Sl := List Pt
structure ST where
  prop : Int
  kind : Int
  n : Int
  imp : Bool
structure RL where
  sels : List Sl
  sets : List ST
structure Nd where
  parent : Int
  tag : ByteArray
  id : ByteArray
  classes : List ByteArray
  attrs : List (ByteArray × ByteArray)
def encAt (a : At) : List AV := [Sx a.name, I a.op, Sx a.text]
def strs (l : List ByteArray) : AV := .imm 1 (l.map fun s => [Sx s])
mutual
def encPt : Pt → List AV
  | .mk k c => I k :: encCp c
def encCp : Cp → List AV
  | .mk t i c a p => [Sx t, strs i, strs c, .imm 3 (a.map encAt), .imm 4 (encPss p)]
def encPs : Ps → List AV
  | .mk k a b l => [I k, I a, I b, .imm 1 (encSls l)]
def encPts : List Pt → List (List AV)
  | [] => []
  | p :: r => encPt p :: encPts r
def encPss : List Ps → List (List AV)
  | [] => []
  | p :: r => encPs p :: encPss r
def encSls : List (List Pt) → List (List AV)
  | [] => []
  | s :: r => [.imm 6 (encPts s)] :: encSls r
end
theorem encPts_map : ∀ (l : List Pt), encPts l = l.map encPt
  | [] => rfl
  | p :: r => by rw [encPts, encPts_map r]; rfl
theorem encPss_map : ∀ (l : List Ps), encPss l = l.map encPs
  | [] => rfl
  | p :: r => by rw [encPss, encPss_map r]; rfl
def encSl (s : Sl) : List AV := [.imm 6 (s.map encPt)]
theorem encSls_map : ∀ (l : List Sl), encSls l = l.map encSl
  | [] => rfl
  | s :: r => by rw [encSls, encSls_map r, encPts_map]; rfl
theorem encPt_eq (p : Pt) : encPt p = I p.comb :: encCp p.c := by cases p; rfl
theorem encCp_eq (c : Cp) : encCp c = [Sx c.tag, strs c.ids, strs c.classes, .imm 3 (c.attrs.map encAt), .imm 4 (c.pseudos.map encPs)] := by
  cases c; rw [encCp, encPss_map]; rfl
theorem encPs_eq (p : Ps) : encPs p = [I p.kind, I p.a, I p.b, .imm 1 (p.list.map encSl)] := by
  cases p; rw [encPs, encSls_map]; rfl
@[simp] theorem len_encPt (p : Pt) : (encPt p).length = 6 := by rw [encPt_eq, encCp_eq]; rfl
@[simp] theorem len_encCp (p : Cp) : (encCp p).length = 5 := by rw [encCp_eq]; rfl
@[simp] theorem len_encPs (p : Ps) : (encPs p).length = 4 := by rw [encPs_eq]; rfl
@[simp] theorem len_encSl (p : Sl) : (encSl p).length = 1 := rfl
@[simp] theorem len_encAt (p : At) : (encAt p).length = 3 := rfl
def sls (l : List Sl) : AV := .imm 1 (l.map encSl)
def encST (s : ST) : List AV := [I s.prop, I s.kind, I s.n, Bo s.imp]
def encRL (r : RL) : List AV := [sls r.sels, .imm 4 (r.sets.map encST)]
def rls (l : List RL) : AV := .imm 2 (l.map encRL)
def encPr (p : ByteArray × ByteArray) : List AV := [Sx p.1, Sx p.2]
def encNd (n : Nd) : List AV := [I n.parent, Sx n.tag, Sx n.id, strs n.classes, .imm 2 (n.attrs.map encPr)]
def nds (l : List Nd) : AV := .imm 5 (l.map encNd)
theorem noIds_map {α : Type} (f : α → List AV) (hf : ∀ x, noIds (f x) = true) : ∀ l : List α, noIdss (l.map f) = true
  | [] => rfl
  | x :: r => by simp only [List.map_cons, noIdss, hf, noIds_map f hf r, Bool.and_self]
@[simp] theorem noId_strs (l : List ByteArray) : noId (strs l) = true := by
  unfold strs; simp only [noId]; exact noIds_map _ (fun _ => rfl) l
theorem noId_At (a : At) : noIds (encAt a) = true := rfl
mutual
theorem noId_Pt : ∀ (p : Pt), noIds (encPt p) = true
  | .mk k c => by rw [encPt]; simp only [noIds, noId, noId_Cp c, Bool.and_self]
theorem noId_Cp : ∀ (c : Cp), noIds (encCp c) = true
  | .mk t i c a p => by rw [encCp]; simp only [noIds, noId, noId_strs, noIds_map _ noId_At, noId_Pss p, Bool.and_self]
theorem noId_Ps : ∀ (p : Ps), noIds (encPs p) = true
  | .mk k a b l => by rw [encPs]; simp only [noIds, noId, noId_Sls l, Bool.and_self]
theorem noId_Pts : ∀ (l : List Pt), noIdss (encPts l) = true
  | [] => rfl
  | p :: r => by rw [encPts]; simp only [noIdss, noId_Pt p, noId_Pts r, Bool.and_self]
theorem noId_Pss : ∀ (l : List Ps), noIdss (encPss l) = true
  | [] => rfl
  | p :: r => by rw [encPss]; simp only [noIdss, noId_Ps p, noId_Pss r, Bool.and_self]
theorem noId_Sls : ∀ (l : List (List Pt)), noIdss (encSls l) = true
  | [] => rfl
  | s :: r => by rw [encSls]; simp only [noIdss, noIds, noId, noId_Pts s, noId_Sls r, Bool.and_self]
end
theorem noId_Sl (s : Sl) : noIds (encSl s) = true := by
  unfold encSl; rw [← encPts_map]; simp only [noIds, noId, noId_Pts, Bool.and_self]
@[simp] theorem noId_sls (l : List Sl) : noId (sls l) = true := by unfold sls; simp only [noId]; exact noIds_map _ noId_Sl l
theorem noId_ST (s : ST) : noIds (encST s) = true := rfl
theorem noId_RL (r : RL) : noIds (encRL r) = true := by unfold encRL; simp only [noIds, noId, noId_sls, noIds_map _ noId_ST, Bool.and_self]
@[simp] theorem noId_rls (l : List RL) : noId (rls l) = true := by unfold rls; simp only [noId]; exact noIds_map _ noId_RL l
theorem noId_Nd (n : Nd) : noIds (encNd n) = true := by unfold encNd; simp only [noIds, noId, noId_strs, noIds_map encPr (fun _ => rfl), Bool.and_self]
@[simp] theorem noId_nds (l : List Nd) : noId (nds l) = true := by unfold nds; simp only [noId]; exact noIds_map _ noId_Nd l
end Go.Proofs.Ythmaggcfghjmfaa.Ev
namespace Go.Proofs.Ythmaggcfghjmfaa.Ev
@[simp] theorem one_strs (l : List ByteArray) : AV.one (strs l) = true := rfl
@[simp] theorem one_Cp (c : Cp) : (encCp c).all AV.one = true := by rw [encCp_eq]; rfl
@[simp] theorem one_Pt (p : Pt) : (encPt p).all AV.one = true := by rw [encPt_eq, List.all_cons, one_Cp]; rfl
@[simp] theorem one_Ps (p : Ps) : (encPs p).all AV.one = true := by rw [encPs_eq]; rfl
@[simp] theorem one_Sl (p : Sl) : (encSl p).all AV.one = true := rfl
@[simp] theorem one_At (p : At) : (encAt p).all AV.one = true := rfl
@[simp] theorem one_RL (p : RL) : (encRL p).all AV.one = true := rfl
@[simp] theorem one_Nd (p : Nd) : (encNd p).all AV.one = true := rfl
@[simp] theorem one_ST (p : ST) : (encST p).all AV.one = true := rfl
@[simp] theorem len_encRL (p : RL) : (encRL p).length = 2 := rfl
@[simp] theorem len_encNd (p : Nd) : (encNd p).length = 5 := rfl
@[simp] theorem len_encST (p : ST) : (encST p).length = 4 := rfl
theorem drop_get {α : Type} {l : List α} {k : Nat} {x : α} (h : l[k]? = some x) : l.drop k = x :: l.drop (k + 1) := by
  obtain ⟨hlt, rfl⟩ := List.getElem?_eq_some_iff.1 h
  exact List.drop_eq_getElem_cons hlt
theorem get_lt {α : Type} {l : List α} {k : Nat} (h : k < l.length) : ∃ x, l[k]? = some x := ⟨l[k], List.getElem?_eq_getElem h⟩
end Go.Proofs.Ythmaggcfghjmfaa.Ev
namespace Go.Proofs.Ythmaggcfghjmfaa.Ev
def i64 (n : Int) : Prop := -9223372036854775808 ≤ n ∧ n ≤ 9223372036854775807
def strsWf (N : Nat) (l : List ByteArray) : Prop := l.length ≤ N ∧ ∀ s ∈ l, s.data.size ≤ N
mutual
def Pt.wf (N : Nat) : Pt → Prop
  | .mk k c => i64 k ∧ Cp.wf N c
def Cp.wf (N : Nat) : Cp → Prop
  | .mk t i c a p => t.data.size ≤ N ∧ strsWf N i ∧ strsWf N c ∧ (a.length ≤ N ∧ ∀ x ∈ a, x.name.data.size ≤ N ∧ i64 x.op ∧ x.text.data.size ≤ N) ∧ p.length ≤ N ∧ wfPss N p
def Ps.wf (N : Nat) : Ps → Prop
  | .mk k a b l => i64 k ∧ i64 a ∧ i64 b ∧ l.length ≤ N ∧ wfSls N l
def wfPts (N : Nat) : List Pt → Prop
  | [] => True
  | p :: r => Pt.wf N p ∧ wfPts N r
def wfPss (N : Nat) : List Ps → Prop
  | [] => True
  | p :: r => Ps.wf N p ∧ wfPss N r
def wfSls (N : Nat) : List (List Pt) → Prop
  | [] => True
  | s :: r => (s.length ≤ N ∧ wfPts N s) ∧ wfSls N r
end
theorem wfPts_mem {N : Nat} : ∀ {l : List Pt}, wfPts N l → ∀ p ∈ l, Pt.wf N p
  | p :: r, h, q, hq => by
    rw [wfPts] at h
    rcases List.mem_cons.1 hq with rfl | hq
    · exact h.1
    · exact wfPts_mem h.2 q hq
theorem wfPss_mem {N : Nat} : ∀ {l : List Ps}, wfPss N l → ∀ p ∈ l, Ps.wf N p
  | p :: r, h, q, hq => by
    rw [wfPss] at h
    rcases List.mem_cons.1 hq with rfl | hq
    · exact h.1
    · exact wfPss_mem h.2 q hq
def slWf (N : Nat) (s : Sl) : Prop := s.length ≤ N ∧ ∀ p ∈ s, Pt.wf N p
theorem wfSls_mem {N : Nat} : ∀ {l : List Sl}, wfSls N l → ∀ s ∈ l, slWf N s
  | s :: r, h, q, hq => by
    rw [wfSls] at h
    rcases List.mem_cons.1 hq with rfl | hq
    · exact ⟨h.1.1, wfPts_mem h.1.2⟩
    · exact wfSls_mem h.2 q hq
theorem wfPts_of {N : Nat} : ∀ {l : List Pt}, (∀ p ∈ l, Pt.wf N p) → wfPts N l
  | [], _ => by rw [wfPts]; trivial
  | p :: r, h => by rw [wfPts]; exact ⟨h p (by simp), wfPts_of fun q hq => h q (by simp [hq])⟩
theorem wfPss_of {N : Nat} : ∀ {l : List Ps}, (∀ p ∈ l, Ps.wf N p) → wfPss N l
  | [], _ => by rw [wfPss]; trivial
  | p :: r, h => by rw [wfPss]; exact ⟨h p (by simp), wfPss_of fun q hq => h q (by simp [hq])⟩
theorem wfSls_of {N : Nat} : ∀ {l : List Sl}, (∀ p ∈ l, slWf N p) → wfSls N l
  | [], _ => by rw [wfSls]; trivial
  | p :: r, h => by rw [wfSls]; exact ⟨⟨(h p (by simp)).1, wfPts_of (h p (by simp)).2⟩, wfSls_of fun q hq => h q (by simp [hq])⟩
def slsWf (N : Nat) (l : List Sl) : Prop := l.length ≤ N ∧ ∀ s ∈ l, slWf N s
structure CpWf (N : Nat) (c : Cp) : Prop where
  tag : c.tag.data.size ≤ N
  ids : strsWf N c.ids
  classes : strsWf N c.classes
  attrsL : c.attrs.length ≤ N
  attrs : ∀ x ∈ c.attrs, x.name.data.size ≤ N ∧ i64 x.op ∧ x.text.data.size ≤ N
  psL : c.pseudos.length ≤ N
  ps : ∀ p ∈ c.pseudos, Ps.wf N p
theorem Cp.wf_iff {N : Nat} {c : Cp} : Cp.wf N c ↔ CpWf N c := by
  cases c
  rw [Cp.wf]
  exact ⟨fun ⟨a, b, c, d, e, f⟩ => ⟨a, b, c, d.1, d.2, e, wfPss_mem f⟩, fun ⟨a, b, c, d, d', e, f⟩ => ⟨a, b, c, ⟨d, d'⟩, e, wfPss_of f⟩⟩
theorem Pt.wf_iff {N : Nat} {p : Pt} : Pt.wf N p ↔ i64 p.comb ∧ CpWf N p.c := by
  cases p; rw [Pt.wf, Cp.wf_iff]; rfl
theorem Ps.wf_iff {N : Nat} {p : Ps} : Ps.wf N p ↔ i64 p.kind ∧ i64 p.a ∧ i64 p.b ∧ slsWf N p.list := by
  cases p; rw [Ps.wf]
  exact ⟨fun ⟨a, b, c, d, e⟩ => ⟨a, b, c, d, wfSls_mem e⟩, fun ⟨a, b, c, d⟩ => ⟨a, b, c, d.1, wfSls_of d.2⟩⟩
abbrev Lmax : Nat := 9223372036854775807
theorem wr_succL {k n N : Nat} (h : k < n) (hn : n ≤ N) (hN : N ≤ Lmax := by decide) : wr .i64 ((k : Int) + 1) = ((k + 1 : Nat) : Int) := by
  have : Lmax = 9223372036854775807 := rfl
  rw [wr64 (by omega) (by omega)]; rfl
end Go.Proofs.Ythmaggcfghjmfaa.Ev
namespace Go.Proofs.Ythmaggcfghjmfaa.Ev
@[simp] theorem len_strs (l : List ByteArray) : lenSl (strs l) = some (.lit (.int .i64 l.length)) := by simp [strs]
@[simp] theorem len_sls (l : List Sl) : lenSl (sls l) = some (.lit (.int .i64 l.length)) := by simp [sls]
@[simp] theorem len_rls (l : List RL) : lenSl (rls l) = some (.lit (.int .i64 l.length)) := by simp [rls]
@[simp] theorem len_nds (l : List Nd) : lenSl (nds l) = some (.lit (.int .i64 l.length)) := by simp [nds]
end Go.Proofs.Ythmaggcfghjmfaa.Ev
namespace Go.Proofs.Ythmaggcfghjmfaa.Ev
@[simp] theorem ldL_sl (s : Sl) : ldL true 1 (encSl s) = some (.agg (encSl s)) := rfl
@[simp] theorem ldL_pt (s : Pt) : ldL true 6 (encPt s) = some (.agg (encPt s)) := ldL_all (len_encPt s)
@[simp] theorem ldL_cp (s : Cp) : ldL true 5 (encCp s) = some (.agg (encCp s)) := ldL_all (len_encCp s)
@[simp] theorem ldL_ps (s : Ps) : ldL true 4 (encPs s) = some (.agg (encPs s)) := ldL_all (len_encPs s)
@[simp] theorem ldL_at (s : At) : ldL true 3 (encAt s) = some (.agg (encAt s)) := rfl
@[simp] theorem ldL_nd (s : Nd) : ldL true 5 (encNd s) = some (.agg (encNd s)) := rfl
@[simp] theorem ldL_rl (s : RL) : ldL true 2 (encRL s) = some (.agg (encRL s)) := rfl
@[simp] theorem ldL_st (s : ST) : ldL true 4 (encST s) = some (.agg (encST s)) := rfl
@[simp] theorem ldL_pr (s : ByteArray × ByteArray) : ldL true 2 (encPr s) = some (.agg (encPr s)) := rfl
@[simp] theorem ov_sl (c : AV) (s : Sl) : overlay [c] 0 (encSl s) = encSl s := rfl
end Go.Proofs.Ythmaggcfghjmfaa.Ev
namespace Go.Proofs.Ythmaggcfghjmfaa.Ev
@[simp] theorem tail_encPt (p : Pt) : (encPt p).tail = encCp p.c := by rw [encPt_eq]; rfl
end Go.Proofs.Ythmaggcfghjmfaa.Ev
namespace Go.Proofs.Ythmaggcfghjmfaa.Ev
@[simp] theorem f_encPs0 (x : Ps) : ldL false 1 (encPs x) = some (I x.kind) := by rw [encPs_eq]; rfl
@[simp] theorem f_encPs1 (x : Ps) : ldL false 1 (encPs x).tail = some (I x.a) := by rw [encPs_eq]; rfl
@[simp] theorem f_encPs2 (x : Ps) : ldL false 1 ((encPs x).drop 2) = some (I x.b) := by rw [encPs_eq]; rfl
@[simp] theorem f_encPs3 (x : Ps) : ldL false 1 ((encPs x).drop 3) = some (.imm 1 (x.list.map encSl)) := by rw [encPs_eq]; rfl
@[simp] theorem f_encCp0 (x : Cp) : ldL false 1 (encCp x) = some (Sx x.tag) := by rw [encCp_eq]; rfl
@[simp] theorem f_encCp1 (x : Cp) : ldL false 1 (encCp x).tail = some (strs x.ids) := by rw [encCp_eq]; rfl
@[simp] theorem f_encCp2 (x : Cp) : ldL false 1 ((encCp x).drop 2) = some (strs x.classes) := by rw [encCp_eq]; rfl
@[simp] theorem f_encCp3 (x : Cp) : ldL false 1 ((encCp x).drop 3) = some (.imm 3 (x.attrs.map encAt)) := by rw [encCp_eq]; rfl
@[simp] theorem f_encCp4 (x : Cp) : ldL false 1 ((encCp x).drop 4) = some (.imm 4 (x.pseudos.map encPs)) := by rw [encCp_eq]; rfl
@[simp] theorem f_encPt0 (x : Pt) : ldL false 1 (encPt x) = some (I x.comb) := by rw [encPt_eq]; rfl
@[simp] theorem f_encSl0 (x : Sl) : ldL false 1 (encSl x) = some (.imm 6 (x.map encPt)) := rfl
@[simp] theorem f_encAt0 (x : At) : ldL false 1 (encAt x) = some (Sx x.name) := rfl
@[simp] theorem f_encAt1 (x : At) : ldL false 1 (encAt x).tail = some (I x.op) := rfl
@[simp] theorem f_encAt2 (x : At) : ldL false 1 ((encAt x).drop 2) = some (Sx x.text) := rfl
@[simp] theorem f_encNd0 (x : Nd) : ldL false 1 (encNd x) = some (I x.parent) := rfl
@[simp] theorem f_encNd1 (x : Nd) : ldL false 1 (encNd x).tail = some (Sx x.tag) := rfl
@[simp] theorem f_encNd2 (x : Nd) : ldL false 1 ((encNd x).drop 2) = some (Sx x.id) := rfl
@[simp] theorem f_encNd3 (x : Nd) : ldL false 1 ((encNd x).drop 3) = some (strs x.classes) := rfl
@[simp] theorem f_encNd4 (x : Nd) : ldL false 1 ((encNd x).drop 4) = some (.imm 2 (x.attrs.map encPr)) := rfl
@[simp] theorem f_encRL0 (x : RL) : ldL false 1 (encRL x) = some (sls x.sels) := rfl
@[simp] theorem f_encRL1 (x : RL) : ldL false 1 (encRL x).tail = some (.imm 4 (x.sets.map encST)) := rfl
@[simp] theorem f_encST0 (x : ST) : ldL false 1 (encST x) = some (I x.prop) := rfl
@[simp] theorem f_encST1 (x : ST) : ldL false 1 (encST x).tail = some (I x.kind) := rfl
@[simp] theorem f_encST2 (x : ST) : ldL false 1 ((encST x).drop 2) = some (I x.n) := rfl
@[simp] theorem f_encST3 (x : ST) : ldL false 1 ((encST x).drop 3) = some (Bo x.imp) := rfl
@[simp] theorem f_encPr0 (x : ByteArray × ByteArray) : ldL false 1 (encPr x) = some (Sx x.1) := rfl
@[simp] theorem f_encPr1 (x : ByteArray × ByteArray) : ldL false 1 (encPr x).tail = some (Sx x.2) := rfl
theorem ov_Ps {l : List AV} (x : Ps) (h : l.length = 4) : overlay l 0 (encPs x) = encPs x := overlay_all (by rw [len_encPs, h])
theorem ov_Pt {l : List AV} (x : Pt) (h : l.length = 6) : overlay l 0 (encPt x) = encPt x := overlay_all (by rw [len_encPt, h])
end Go.Proofs.Ythmaggcfghjmfaa.Ev
namespace Go.Proofs.Ythmaggcfghjmfaa.Ev
set_option linter.unusedVariables false
set_option linter.unusedSimpArgs false
theorem flat_drop {sz : Nat} : ∀ {rows : List (List AV)} {w : Nat} (hs : ∀ r ∈ rows, r.length = sz) (h : w < rows.length), rows.flatten.drop (w * sz) = rows[w] ++ (rows.drop (w + 1)).flatten
  | r :: rs, 0, hs, h => by simp
  | r :: rs, w + 1, hs, h => by
    have hr : r.length = sz := hs r (by simp)
    have e : (w + 1) * sz = sz + w * sz := by rw [Nat.succ_mul, Nat.add_comm]
    have e1 : (r ++ rs.flatten).drop sz = rs.flatten := by rw [← hr]; simp
    rw [List.flatten_cons, e, ← List.drop_drop, e1]
    exact flat_drop (fun r hr => hs r (by simp [hr])) (by simpa using h)
theorem overlay_app_right {a b : List AV} {k : Nat} {xs : List AV} : overlay (a ++ b) (a.length + k) xs = a ++ overlay b k xs := by
  unfold overlay
  rw [Nat.add_assoc, List.take_append, List.drop_append, List.take_of_length_le (by omega), List.drop_eq_nil_of_le (by omega)]
  simp
theorem overlay_app_left {a b : List AV} {k : Nat} {xs : List AV} (h : k + xs.length ≤ a.length) : overlay (a ++ b) k xs = overlay a k xs ++ b := by
  unfold overlay
  rw [List.take_append_of_le_length (by omega), List.drop_append_of_le_length h]
  simp
theorem flat_overlay {sz : Nat} {xs : List AV} {k : Nat} (hk : k + xs.length ≤ sz) : ∀ {rows : List (List AV)} {w : Nat} (hs : ∀ r ∈ rows, r.length = sz) (h : w < rows.length), overlay rows.flatten (w * sz + k) xs = (rows.set w (overlay rows[w] k xs)).flatten
  | r :: rs, 0, hs, h => by
    have hr : r.length = sz := hs r (by simp)
    simp only [Nat.zero_mul, Nat.zero_add, List.flatten_cons, List.getElem_cons_zero, List.set_cons_zero]
    exact overlay_app_left (by omega)
  | r :: rs, w + 1, hs, h => by
    have hr : r.length = sz := hs r (by simp)
    have e : (w + 1) * sz + k = r.length + (w * sz + k) := by rw [Nat.succ_mul, hr]; omega
    simp only [List.flatten_cons, List.getElem_cons_succ, List.set_cons_succ]
    rw [e, overlay_app_right, flat_overlay hk (fun r hr => hs r (by simp [hr])) (by simpa using h)]
end Go.Proofs.Ythmaggcfghjmfaa.Ev
namespace Go.Proofs.Ythmaggcfghjmfaa.Ev
set_option linter.unusedVariables false
set_option linter.unusedSimpArgs false
def Nd.none : Nd := ⟨0, ⟨#[]⟩, ⟨#[]⟩, [], []⟩
def ndAt (L : List Nd) (i : Nat) : Nd := L.getD i Nd.none
def par (L : List Nd) (i : Nat) : Int := (ndAt L i).parent
def kids (L : List Nd) (m e : Nat) : List Nat := (List.range m).filter fun j => decide (0 < j) && decide (par L j = e)
def sibs (L : List Nd) (e : Nat) : List Nat := (List.range e).filter fun j => decide (0 < j) && decide (par L j = par L e)
def lastI (l : List Nat) : Int := match l.getLast? with | some j => j | none => -1
def place (L : List Nd) (e : Nat) : Int := (sibs L e).length + 1
def before (L : List Nd) (e : Nat) : Int := lastI (sibs L e)
structure Built (L : List Nd) (m : Nat) (d : List Nat) : Prop where
  len : d.length = m
  le : m ≤ L.length
  root : 0 < m → par L 0 = -1 ∧ d[0]? = some 0
  step : ∀ i, 0 < i → i < m → ∃ p x : Nat, par L i = p ∧ p < i ∧ d[p]? = some x ∧ d[i]? = some (x + 1) ∧ x + 1 ≤ 256
theorem Built.nil (L : List Nd) : Built L 0 [] := ⟨rfl, Nat.zero_le _, fun h => absurd h (Nat.lt_irrefl 0), fun i h0 h => absurd h (Nat.not_lt_zero i)⟩
theorem Built.first {L : List Nd} (hl : 0 < L.length) (h : par L 0 = -1) : Built L 1 [0] := ⟨rfl, hl, fun _ => ⟨h, rfl⟩, fun i h0 h => by omega⟩
theorem Built.next {L : List Nd} {m p x : Nat} {d : List Nat} (h : Built L m d) (hm : 0 < m) (hl : m < L.length) (hp : par L m = p) (hlt : p < m) (hx : d[p]? = some x) (h256 : x + 1 ≤ 256) : Built L (m + 1) (d ++ [x + 1]) := by
  have hlen := h.len
  refine ⟨by simp [hlen], hl, fun _ => ⟨(h.root hm).1, ?_⟩, fun i h0 hi => ?_⟩
  · rw [List.getElem?_append_left (by omega)]; exact (h.root hm).2
  · by_cases him : i < m
    · obtain ⟨p', x', e1, e2, e3, e4, e5⟩ := h.step i h0 him
      exact ⟨p', x', e1, e2, by rw [List.getElem?_append_left (by omega)]; exact e3, by rw [List.getElem?_append_left (by omega)]; exact e4, e5⟩
    · have : i = m := by omega
      subst this
      exact ⟨p, x, hp, hlt, by rw [List.getElem?_append_left (by omega)]; exact hx, by rw [List.getElem?_append_right (by omega), hlen]; simp, h256⟩
theorem kids_succ (L : List Nd) (m e : Nat) : kids L (m + 1) e = kids L m e ++ if 0 < m ∧ par L m = e then [m] else [] := by
  unfold kids
  rw [List.range_succ, List.filter_append]
  congr 1
  by_cases h : 0 < m ∧ par L m = (e : Int)
  · simp [h]
  · rw [if_neg h]
    simp only [List.filter_cons, List.filter_nil]
    rw [if_neg (by simpa using h)]
theorem kids_self {L : List Nd} {m p : Nat} (hp : par L m = p) : kids L m p = sibs L m := by unfold kids sibs; rw [hp]
theorem kids_ge {L : List Nd} {N : Nat} {d : List Nat} (hB : Built L N d) {m : Nat} (hm : m ≤ N) {e : Nat} (he : m ≤ e + 1) : kids L m e = [] := by
  unfold kids
  rw [List.filter_eq_nil_iff]
  intro j hj
  simp only [List.mem_range] at hj
  simp only [Bool.and_eq_true, decide_eq_true_eq, not_and]
  intro h0 h1
  obtain ⟨p, x, e1, e2, _⟩ := hB.step j h0 (by omega)
  rw [e1] at h1
  omega
def rowE (L : List Nd) (d : List Nat) (i : Nat) (c : AV) (low : Nd → Nd) : List AV := encNd (low (ndAt L i)) ++ [c, I (d.getD i 0), I (place L i), I (before L i)]
@[simp] theorem len_rowE (L : List Nd) (d : List Nat) (i : Nat) (c : AV) (low : Nd → Nd) : (rowE L d i c low).length = 9 := rfl
def rowsE (L : List Nd) (d : List Nat) (ch : List AV) (low : Nd → Nd) : List (List AV) := ch.mapIdx fun i c => rowE L d i c low
theorem rowsE_len (L : List Nd) (d : List Nat) (ch : List AV) (low : Nd → Nd) : (rowsE L d ch low).length = ch.length := by simp [rowsE]
theorem rowsE_sz {L : List Nd} {d : List Nat} {ch : List AV} {low : Nd → Nd} : ∀ row ∈ rowsE L d ch low, row.length = 9 := by
  intro row h
  unfold rowsE at h
  obtain ⟨i, hi, rfl⟩ := List.mem_mapIdx.1 h
  rfl
theorem rowsE_get {L : List Nd} {d : List Nat} {ch : List AV} {low : Nd → Nd} {k : Nat} {c : AV} (h : ch[k]? = some c) : (rowsE L d ch low)[k]? = some (rowE L d k c low) := by
  unfold rowsE
  rw [List.getElem?_mapIdx, h]; rfl
theorem rowsE_set {L : List Nd} {d : List Nat} {ch : List AV} {low : Nd → Nd} {k : Nat} {c' : AV} : rowsE L d (ch.set k c') low = (rowsE L d ch low).set k (rowE L d k c' low) := by
  apply List.ext_getElem?
  intro i
  unfold rowsE
  rw [List.getElem?_mapIdx, List.getElem?_set, List.getElem?_set, List.getElem?_mapIdx]
  by_cases hi : k = i
  · subst hi
    simp only [if_true, List.length_mapIdx]
    by_cases hk : k < ch.length
    · simp [hk]
    · simp [hk]
  · simp [hi]
theorem rowsE_app {L : List Nd} {d : List Nat} {ch : List AV} {low : Nd → Nd} {c : AV} : rowsE L d (ch ++ [c]) low = rowsE L d ch low ++ [rowE L d ch.length c low] := by
  simp [rowsE, List.mapIdx_append]
theorem rowsE_drop {L : List Nd} {d : List Nat} {ch : List AV} {low : Nd → Nd} {k : Nat} {c : AV} (h : ch[k]? = some c) : ∃ r, (rowsE L d ch low).flatten.drop (k * 9) = rowE L d k c low ++ r := by
  have hk := (List.getElem?_eq_some_iff.1 h).1
  have e := rowsE_get (L := L) (d := d) (low := low) h
  have hk' : k < (rowsE L d ch low).length := by rw [rowsE_len]; exact hk
  refine ⟨((rowsE L d ch low).drop (k + 1)).flatten, ?_⟩
  rw [flat_drop rowsE_sz hk']
  congr 1
  rw [List.getElem?_eq_getElem hk'] at e
  exact Option.some.inj e
theorem rowsE_dropJ {L : List Nd} {d : List Nat} {ch : List AV} {low : Nd → Nd} {k : Nat} {c : AV} (h : ch[k]? = some c) (j : Nat) (hj : j ≤ 9) : ∃ r, (rowsE L d ch low).flatten.drop (k * 9 + j) = (rowE L d k c low).drop j ++ r := by
  obtain ⟨r, e⟩ := rowsE_drop (L := L) (d := d) (low := low) h
  refine ⟨r, ?_⟩
  rw [← List.drop_drop, e, List.drop_append_of_le_length (by simpa using hj)]
theorem rowsE_put {L : List Nd} {d : List Nat} {ch : List AV} {low : Nd → Nd} {k : Nat} {c c' : AV} (h : ch[k]? = some c) : overlay (rowsE L d ch low).flatten (k * 9 + 5) [c'] = (rowsE L d (ch.set k c') low).flatten := by
  have hk := (List.getElem?_eq_some_iff.1 h).1
  have hk' : k < (rowsE L d ch low).length := by rw [rowsE_len]; exact hk
  rw [flat_overlay (sz := 9) (by simp) rowsE_sz hk', rowsE_set]
  congr 2
  have e := rowsE_get (L := L) (d := d) (low := low) h
  rw [List.getElem?_eq_getElem hk'] at e
  rw [Option.some.inj e]
  rfl
end Go.Proofs.Ythmaggcfghjmfaa.Ev
namespace Go.Proofs.Ythmaggcfghjmfaa.Ev
set_option linter.unusedVariables false
set_option linter.unusedSimpArgs false
abbrev tl (s : ByteArray) : List UInt8 := s.data.toList
def mk (l : List UInt8) : ByteArray := ⟨l.toArray⟩
@[simp] theorem tl_mk (l : List UInt8) : tl (mk l) = l := by simp [tl, mk]
@[simp] theorem mk_tl (s : ByteArray) : mk (tl s) = s := by simp [tl, mk]
theorem mk_inj {a b : List UInt8} (h : mk a = mk b) : a = b := by rw [← tl_mk a, h, tl_mk]
theorem tl_inj {a b : ByteArray} (h : tl a = tl b) : a = b := by rw [← mk_tl a, h, mk_tl]
theorem tl_len (s : ByteArray) : (tl s).length = s.data.size := by simp [tl]
theorem mk_size (l : List UInt8) : (mk l).data.size = l.length := by simp [mk]
theorem ix_str {s : ByteArray} {k : Nat} {c : UInt8} (h : (tl s)[k]? = some c) : ixStr (Sx s) (I (k : Int)) = some (.lit (.int .u8 c.toNat)) := by
  simp only [ixStr, intA]
  simp [h]
theorem sl_str {s : ByteArray} {a b : Nat} (h1 : a ≤ b) (h2 : b ≤ s.data.size) : slStr (Sx s) (some (I (a : Int))) (some (I (b : Int))) = some (Sx (mk (((tl s).drop a).take (b - a)))) := by
  have h3 : b ≤ s.size := h2
  simp [slStr, intO, intA, boundsA, boundA, extractS, mk, tl, h1, h3]
theorem sl_str0 {s : ByteArray} {b : Nat} (h2 : b ≤ s.data.size) : slStr (Sx s) none (some (I (b : Int))) = some (Sx (mk ((tl s).take b))) := by
  have h3 : b ≤ s.size := h2
  simp [slStr, intO, intA, boundsA, boundA, extractS, mk, tl, h3]
theorem sl_strE {s : ByteArray} {a : Nat} (h1 : a ≤ s.data.size) : slStr (Sx s) (some (I (a : Int))) none = some (Sx (mk ((tl s).drop a))) := by
  have h3 : a ≤ s.size := h1
  simp [slStr, intO, intA, boundsA, boundA, extractS, mk, tl, h3]
  exact List.take_of_length_le (by simp)
theorem b_sadd {a b : ByteArray} (h : a.data.size + b.data.size ≤ 9223372036854775807) : binR .add (Sx a) (Sx b) = some (Sx (mk (tl a ++ tl b))) := by
  have e : a.data ++ b.data = (a.data.toList ++ b.data.toList).toArray := by
    apply Array.ext'
    simp
  have h3 : a.size + b.size ≤ 9223372036854775807 := h
  simp [binR, lit?, sbin, bleN, h3, mk, tl, e]
def preB (s p : List UInt8) : Bool := p.isPrefixOf s
def sufB (s p : List UInt8) : Bool := p.isSuffixOf s
theorem pre_take (s p : List UInt8) (h : p.length ≤ s.length) : decide (mk (s.take p.length) = mk p) = preB s p := by
  have := Go.Lib.hasPrefix_of_take s p
  simp only [h, decide_true, Bool.true_and, Go.Lib.hasPrefix] at this
  unfold preB
  rw [← this]
  by_cases e : s.take p.length = p
  · simp [e]
  · have : ¬ (mk (s.take p.length) = mk p) := fun h => e (mk_inj h)
    simp [e, this]
theorem suf_drop (s p : List UInt8) (h : p.length ≤ s.length) : decide (mk (s.drop (s.length - p.length)) = mk p) = sufB s p := by
  have := Go.Lib.hasSuffix_of_drop s p
  simp only [h, decide_true, Bool.true_and, Go.Lib.hasSuffix] at this
  unfold sufB
  rw [← this]
  by_cases e : s.drop (s.length - p.length) = p
  · simp [e]
  · have : ¬ (mk (s.drop (s.length - p.length)) = mk p) := fun h => e (mk_inj h)
    simp [e, this]
theorem pre_long {s p : List UInt8} (h : s.length < p.length) : preB s p = false := by
  have := Go.Lib.hasPrefix_of_take s p
  rw [show decide (p.length ≤ s.length) = false by simp; omega] at this
  simpa [preB, Go.Lib.hasPrefix] using this.symm
theorem suf_long {s p : List UInt8} (h : s.length < p.length) : sufB s p = false := by
  have := Go.Lib.hasSuffix_of_drop s p
  rw [show decide (p.length ≤ s.length) = false by simp; omega] at this
  simpa [sufB, Go.Lib.hasSuffix] using this.symm
def wht (c : UInt8) : Bool := c.toNat == 9 || (c.toNat == 10 || (c.toNat == 12 || (c.toNat == 13 || c.toNat == 32)))
def nw (c : UInt8) : Bool := !wht c
def wl (l : List UInt8) : Nat := (l.takeWhile nw).length
theorem wl_le : ∀ (l : List UInt8), wl l ≤ l.length
  | [] => Nat.le_refl _
  | c :: l => by
    unfold wl
    rw [List.takeWhile_cons]
    split
    · have := wl_le l; unfold wl at this; simp; exact this
    · simp
theorem wl_lt : ∀ {l : List UInt8} {k : Nat}, k < wl l → ∃ c, l[k]? = some c ∧ wht c = false
  | [], k, h => by simp [wl] at h
  | c :: l, k, h => by
    unfold wl at h
    rw [List.takeWhile_cons] at h
    split at h
    · rename_i hc
      cases k with
      | zero => exact ⟨c, rfl, by simpa [nw] using hc⟩
      | succ k => exact wl_lt (l := l) (by unfold wl; simpa using h)
    · simp at h
theorem wl_at : ∀ {l : List UInt8} {c : UInt8}, l[wl l]? = some c → wht c = true
  | [], c, h => by simp at h
  | d :: l, c, h => by
    unfold wl at h
    rw [List.takeWhile_cons] at h
    split at h
    · exact wl_at (l := l) (by unfold wl; simpa using h)
    · rename_i hc
      simp at h
      subst h
      simpa [nw] using hc
def wordsF : Nat → List UInt8 → List (List UInt8)
  | 0, _ => []
  | f + 1, l => if l = [] then [] else if wl l = 0 then wordsF f (l.drop 1) else l.take (wl l) :: wordsF f (l.drop (wl l + 1))
theorem wordsF_eq : ∀ (f g : Nat) (l : List UInt8), l.length < f → l.length < g → wordsF f l = wordsF g l
  | 0, g, l, h, _ => by omega
  | f + 1, 0, l, _, h => by omega
  | f + 1, g + 1, l, h1, h2 => by
    unfold wordsF
    by_cases hl : l = []
    · rw [if_pos hl, if_pos hl]
    · have hpos : 0 < l.length := List.length_pos_iff.2 hl
      rw [if_neg hl, if_neg hl, wordsF_eq f g (l.drop 1) (by simp; omega) (by simp; omega), wordsF_eq f g (l.drop (wl l + 1)) (by simp; omega) (by simp; omega)]
def wordsB (l : List UInt8) : List (List UInt8) := wordsF (l.length + 1) l
theorem wordsB_nil : wordsB [] = [] := rfl
theorem wordsB_eq {l : List UInt8} (hl : l ≠ []) : wordsB l = if wl l = 0 then wordsB (l.drop 1) else l.take (wl l) :: wordsB (l.drop (wl l + 1)) := by
  have hpos : 0 < l.length := List.length_pos_iff.2 hl
  show wordsF (l.length + 1) l = _
  unfold wordsF
  rw [if_neg hl]
  unfold wordsB
  rw [wordsF_eq l.length ((l.drop 1).length + 1) (l.drop 1) (by simp; omega) (by simp), wordsF_eq l.length ((l.drop (wl l + 1)).length + 1) (l.drop (wl l + 1)) (by simp; omega) (by simp)]
end Go.Proofs.Ythmaggcfghjmfaa.Ev
namespace Go.Proofs.Ythmaggcfghjmfaa.Ev
set_option maxRecDepth 100000
set_option maxHeartbeats 4000000
noncomputable def ti1 : TI := ⟨.func, 1, 8, [.nilFunc]⟩
theorem ti1_ok : tiOf Try.prog 1 = some ti1 := by kernel_rfl
noncomputable def ti2 : TI := ⟨.int .i64, 1, 8, [.int .i64 0]⟩
theorem ti2_ok : tiOf Try.prog 2 = some ti2 := by kernel_rfl
noncomputable def ti3 : TI := ⟨.int .i64, 1, 8, [.int .i64 0]⟩
theorem ti3_ok : tiOf Try.prog 3 = some ti3 := by kernel_rfl
noncomputable def ti4 : TI := ⟨.bool, 1, 1, [.bool false]⟩
theorem ti4_ok : tiOf Try.prog 4 = some ti4 := by kernel_rfl
noncomputable def ti5 : TI := ⟨.int .u8, 1, 1, [.int .u8 0]⟩
theorem ti5_ok : tiOf Try.prog 5 = some ti5 := by kernel_rfl
noncomputable def ti6 : TI := ⟨.int .u8, 1, 1, [.int .u8 0]⟩
theorem ti6_ok : tiOf Try.prog 6 = some ti6 := by kernel_rfl
noncomputable def ti7 : TI := ⟨.struct [(0, 2), (1, 3), (2, 4), (3, 6)], 4, 24, [.int .i64 0, .int .i64 0, .bool false, .int .u8 0]⟩
theorem ti7_ok : tiOf Try.prog 7 = some ti7 := by kernel_rfl
noncomputable def ti8 : TI := ⟨.struct [(0, 2), (1, 3), (2, 4), (3, 6)], 4, 24, [.int .i64 0, .int .i64 0, .bool false, .int .u8 0]⟩
theorem ti8_ok : tiOf Try.prog 8 = some ti8 := by kernel_rfl
noncomputable def ti9 : TI := ⟨.string, 1, 16, [.string ⟨#[]⟩]⟩
theorem ti9_ok : tiOf Try.prog 9 = some ti9 := by kernel_rfl
noncomputable def ti10 : TI := ⟨.string, 1, 16, [.string ⟨#[]⟩]⟩
theorem ti10_ok : tiOf Try.prog 10 = some ti10 := by kernel_rfl
noncomputable def ti11 : TI := ⟨.string, 1, 16, [.string ⟨#[]⟩]⟩
theorem ti11_ok : tiOf Try.prog 11 = some ti11 := by kernel_rfl
noncomputable def ti12 : TI := ⟨.int .u64, 1, 8, [.int .u64 0]⟩
theorem ti12_ok : tiOf Try.prog 12 = some ti12 := by kernel_rfl
noncomputable def ti13 : TI := ⟨.struct [(0, 9), (1, 12)], 2, 24, [.string ⟨#[]⟩, .int .u64 0]⟩
theorem ti13_ok : tiOf Try.prog 13 = some ti13 := by kernel_rfl
noncomputable def ti14 : TI := ⟨.struct [(0, 9), (1, 12)], 2, 24, [.string ⟨#[]⟩, .int .u64 0]⟩
theorem ti14_ok : tiOf Try.prog 14 = some ti14 := by kernel_rfl
noncomputable def ti15 : TI := ⟨.ptr 166, 1, 8, [.pointer none]⟩
theorem ti15_ok : tiOf Try.prog 15 = some ti15 := by kernel_rfl
noncomputable def ti16 : TI := ⟨.ptr 169, 1, 8, [.pointer none]⟩
theorem ti16_ok : tiOf Try.prog 16 = some ti16 := by kernel_rfl
noncomputable def ti17 : TI := ⟨.ptr 177, 1, 8, [.pointer none]⟩
theorem ti17_ok : tiOf Try.prog 17 = some ti17 := by kernel_rfl
noncomputable def ti18 : TI := ⟨.struct [(0, 17)], 1, 8, [.pointer none]⟩
theorem ti18_ok : tiOf Try.prog 18 = some ti18 := by kernel_rfl
noncomputable def ti19 : TI := ⟨.struct [(0, 17)], 1, 8, [.pointer none]⟩
theorem ti19_ok : tiOf Try.prog 19 = some ti19 := by kernel_rfl
noncomputable def ti21 : TI := ⟨.int .i32, 1, 4, [.int .i32 0]⟩
theorem ti21_ok : tiOf Try.prog 21 = some ti21 := by kernel_rfl
noncomputable def ti22 : TI := ⟨.slice 47, 1, 24, [.slice none 0 0]⟩
theorem ti22_ok : tiOf Try.prog 22 = some ti22 := by kernel_rfl
noncomputable def ti23 : TI := ⟨.slice 43, 1, 24, [.slice none 0 0]⟩
theorem ti23_ok : tiOf Try.prog 23 = some ti23 := by kernel_rfl
noncomputable def ti24 : TI := ⟨.struct [(0, 23)], 1, 24, [.slice none 0 0]⟩
theorem ti24_ok : tiOf Try.prog 24 = some ti24 := by kernel_rfl
noncomputable def ti25 : TI := ⟨.struct [(0, 23)], 1, 24, [.slice none 0 0]⟩
theorem ti25_ok : tiOf Try.prog 25 = some ti25 := by kernel_rfl
noncomputable def ti26 : TI := ⟨.func, 1, 8, [.nilFunc]⟩
theorem ti26_ok : tiOf Try.prog 26 = some ti26 := by kernel_rfl
noncomputable def ti27 : TI := ⟨.func, 1, 8, [.nilFunc]⟩
theorem ti27_ok : tiOf Try.prog 27 = some ti27 := by kernel_rfl
noncomputable def ti28 : TI := ⟨.slice 25, 1, 24, [.slice none 0 0]⟩
theorem ti28_ok : tiOf Try.prog 28 = some ti28 := by kernel_rfl
noncomputable def ti29 : TI := ⟨.ptr 90, 1, 8, [.pointer none]⟩
theorem ti29_ok : tiOf Try.prog 29 = some ti29 := by kernel_rfl
noncomputable def ti30 : TI := ⟨.ptr 87, 1, 8, [.pointer none]⟩
theorem ti30_ok : tiOf Try.prog 30 = some ti30 := by kernel_rfl
noncomputable def ti32 : TI := ⟨.func, 1, 8, [.nilFunc]⟩
theorem ti32_ok : tiOf Try.prog 32 = some ti32 := by kernel_rfl
noncomputable def ti33 : TI := ⟨.func, 1, 8, [.nilFunc]⟩
theorem ti33_ok : tiOf Try.prog 33 = some ti33 := by kernel_rfl
noncomputable def ti34 : TI := ⟨.func, 1, 8, [.nilFunc]⟩
theorem ti34_ok : tiOf Try.prog 34 = some ti34 := by kernel_rfl
noncomputable def ti35 : TI := ⟨.func, 1, 8, [.nilFunc]⟩
theorem ti35_ok : tiOf Try.prog 35 = some ti35 := by kernel_rfl
noncomputable def ti36 : TI := ⟨.func, 1, 8, [.nilFunc]⟩
theorem ti36_ok : tiOf Try.prog 36 = some ti36 := by kernel_rfl
noncomputable def ti37 : TI := ⟨.slice 9, 1, 24, [.slice none 0 0]⟩
theorem ti37_ok : tiOf Try.prog 37 = some ti37 := by kernel_rfl
noncomputable def ti38 : TI := ⟨.slice 66, 1, 24, [.slice none 0 0]⟩
theorem ti38_ok : tiOf Try.prog 38 = some ti38 := by kernel_rfl
noncomputable def ti39 : TI := ⟨.slice 49, 1, 24, [.slice none 0 0]⟩
theorem ti39_ok : tiOf Try.prog 39 = some ti39 := by kernel_rfl
noncomputable def ti40 : TI := ⟨.struct [(0, 9), (1, 37), (2, 37), (3, 38), (4, 39)], 5, 112, [.string ⟨#[]⟩, .slice none 0 0, .slice none 0 0, .slice none 0 0, .slice none 0 0]⟩
theorem ti40_ok : tiOf Try.prog 40 = some ti40 := by kernel_rfl
noncomputable def ti41 : TI := ⟨.struct [(0, 9), (1, 37), (2, 37), (3, 38), (4, 39)], 5, 112, [.string ⟨#[]⟩, .slice none 0 0, .slice none 0 0, .slice none 0 0, .slice none 0 0]⟩
theorem ti41_ok : tiOf Try.prog 41 = some ti41 := by kernel_rfl
noncomputable def ti42 : TI := ⟨.struct [(0, 3), (1, 41)], 6, 120, [.int .i64 0, .string ⟨#[]⟩, .slice none 0 0, .slice none 0 0, .slice none 0 0, .slice none 0 0]⟩
theorem ti42_ok : tiOf Try.prog 42 = some ti42 := by kernel_rfl
noncomputable def ti43 : TI := ⟨.struct [(0, 3), (1, 41)], 6, 120, [.int .i64 0, .string ⟨#[]⟩, .slice none 0 0, .slice none 0 0, .slice none 0 0, .slice none 0 0]⟩
theorem ti43_ok : tiOf Try.prog 43 = some ti43 := by kernel_rfl
noncomputable def ti44 : TI := ⟨.func, 1, 8, [.nilFunc]⟩
theorem ti44_ok : tiOf Try.prog 44 = some ti44 := by kernel_rfl
noncomputable def ti45 : TI := ⟨.slice 64, 1, 24, [.slice none 0 0]⟩
theorem ti45_ok : tiOf Try.prog 45 = some ti45 := by kernel_rfl
noncomputable def ti46 : TI := ⟨.struct [(0, 3), (1, 9), (2, 9), (3, 37), (4, 45)], 5, 88, [.int .i64 0, .string ⟨#[]⟩, .string ⟨#[]⟩, .slice none 0 0, .slice none 0 0]⟩
theorem ti46_ok : tiOf Try.prog 46 = some ti46 := by kernel_rfl
noncomputable def ti47 : TI := ⟨.struct [(0, 3), (1, 9), (2, 9), (3, 37), (4, 45)], 5, 88, [.int .i64 0, .string ⟨#[]⟩, .string ⟨#[]⟩, .slice none 0 0, .slice none 0 0]⟩
theorem ti47_ok : tiOf Try.prog 47 = some ti47 := by kernel_rfl
noncomputable def ti48 : TI := ⟨.struct [(0, 3), (1, 3), (2, 3), (3, 28)], 4, 48, [.int .i64 0, .int .i64 0, .int .i64 0, .slice none 0 0]⟩
theorem ti48_ok : tiOf Try.prog 48 = some ti48 := by kernel_rfl
noncomputable def ti49 : TI := ⟨.struct [(0, 3), (1, 3), (2, 3), (3, 28)], 4, 48, [.int .i64 0, .int .i64 0, .int .i64 0, .slice none 0 0]⟩
theorem ti49_ok : tiOf Try.prog 49 = some ti49 := by kernel_rfl
noncomputable def ti50 : TI := ⟨.func, 1, 8, [.nilFunc]⟩
theorem ti50_ok : tiOf Try.prog 50 = some ti50 := by kernel_rfl
noncomputable def ti51 : TI := ⟨.func, 1, 8, [.nilFunc]⟩
theorem ti51_ok : tiOf Try.prog 51 = some ti51 := by kernel_rfl
noncomputable def ti52 : TI := ⟨.func, 1, 8, [.nilFunc]⟩
theorem ti52_ok : tiOf Try.prog 52 = some ti52 := by kernel_rfl
noncomputable def ti53 : TI := ⟨.func, 1, 8, [.nilFunc]⟩
theorem ti53_ok : tiOf Try.prog 53 = some ti53 := by kernel_rfl
noncomputable def ti54 : TI := ⟨.func, 1, 8, [.nilFunc]⟩
theorem ti54_ok : tiOf Try.prog 54 = some ti54 := by kernel_rfl
noncomputable def ti55 : TI := ⟨.func, 1, 8, [.nilFunc]⟩
theorem ti55_ok : tiOf Try.prog 55 = some ti55 := by kernel_rfl
noncomputable def ti56 : TI := ⟨.func, 1, 8, [.nilFunc]⟩
theorem ti56_ok : tiOf Try.prog 56 = some ti56 := by kernel_rfl
noncomputable def ti57 : TI := ⟨.int .i64, 1, 8, [.int .i64 0]⟩
theorem ti57_ok : tiOf Try.prog 57 = some ti57 := by kernel_rfl
noncomputable def ti59 : TI := ⟨.func, 1, 8, [.nilFunc]⟩
theorem ti59_ok : tiOf Try.prog 59 = some ti59 := by kernel_rfl
noncomputable def ti61 : TI := ⟨.func, 1, 8, [.nilFunc]⟩
theorem ti61_ok : tiOf Try.prog 61 = some ti61 := by kernel_rfl
noncomputable def ti62 : TI := ⟨.func, 1, 8, [.nilFunc]⟩
theorem ti62_ok : tiOf Try.prog 62 = some ti62 := by kernel_rfl
noncomputable def ti63 : TI := ⟨.struct [(0, 9), (1, 9)], 2, 32, [.string ⟨#[]⟩, .string ⟨#[]⟩]⟩
theorem ti63_ok : tiOf Try.prog 63 = some ti63 := by kernel_rfl
noncomputable def ti64 : TI := ⟨.struct [(0, 9), (1, 9)], 2, 32, [.string ⟨#[]⟩, .string ⟨#[]⟩]⟩
theorem ti64_ok : tiOf Try.prog 64 = some ti64 := by kernel_rfl
noncomputable def ti65 : TI := ⟨.struct [(0, 9), (1, 3), (2, 9)], 3, 40, [.string ⟨#[]⟩, .int .i64 0, .string ⟨#[]⟩]⟩
theorem ti65_ok : tiOf Try.prog 65 = some ti65 := by kernel_rfl
noncomputable def ti66 : TI := ⟨.struct [(0, 9), (1, 3), (2, 9)], 3, 40, [.string ⟨#[]⟩, .int .i64 0, .string ⟨#[]⟩]⟩
theorem ti66_ok : tiOf Try.prog 66 = some ti66 := by kernel_rfl
noncomputable def ti67 : TI := ⟨.func, 1, 8, [.nilFunc]⟩
theorem ti67_ok : tiOf Try.prog 67 = some ti67 := by kernel_rfl
noncomputable def ti68 : TI := ⟨.slice 3, 1, 24, [.slice none 0 0]⟩
theorem ti68_ok : tiOf Try.prog 68 = some ti68 := by kernel_rfl
noncomputable def ti69 : TI := ⟨.func, 1, 8, [.nilFunc]⟩
theorem ti69_ok : tiOf Try.prog 69 = some ti69 := by kernel_rfl
noncomputable def ti70 : TI := ⟨.slice 4, 1, 24, [.slice none 0 0]⟩
theorem ti70_ok : tiOf Try.prog 70 = some ti70 := by kernel_rfl
noncomputable def ti71 : TI := ⟨.func, 1, 8, [.nilFunc]⟩
theorem ti71_ok : tiOf Try.prog 71 = some ti71 := by kernel_rfl
noncomputable def ti72 : TI := ⟨.func, 1, 8, [.nilFunc]⟩
theorem ti72_ok : tiOf Try.prog 72 = some ti72 := by kernel_rfl
noncomputable def ti73 : TI := ⟨.func, 1, 8, [.nilFunc]⟩
theorem ti73_ok : tiOf Try.prog 73 = some ti73 := by kernel_rfl
noncomputable def ti74 : TI := ⟨.func, 1, 8, [.nilFunc]⟩
theorem ti74_ok : tiOf Try.prog 74 = some ti74 := by kernel_rfl
noncomputable def ti75 : TI := ⟨.func, 1, 8, [.nilFunc]⟩
theorem ti75_ok : tiOf Try.prog 75 = some ti75 := by kernel_rfl
noncomputable def ti76 : TI := ⟨.func, 1, 8, [.nilFunc]⟩
theorem ti76_ok : tiOf Try.prog 76 = some ti76 := by kernel_rfl
noncomputable def ti77 : TI := ⟨.func, 1, 8, [.nilFunc]⟩
theorem ti77_ok : tiOf Try.prog 77 = some ti77 := by kernel_rfl
noncomputable def ti79 : TI := ⟨.func, 1, 8, [.nilFunc]⟩
theorem ti79_ok : tiOf Try.prog 79 = some ti79 := by kernel_rfl
noncomputable def ti80 : TI := ⟨.slice 108, 1, 24, [.slice none 0 0]⟩
theorem ti80_ok : tiOf Try.prog 80 = some ti80 := by kernel_rfl
noncomputable def ti81 : TI := ⟨.func, 1, 8, [.nilFunc]⟩
theorem ti81_ok : tiOf Try.prog 81 = some ti81 := by kernel_rfl
noncomputable def ti82 : TI := ⟨.func, 1, 8, [.nilFunc]⟩
theorem ti82_ok : tiOf Try.prog 82 = some ti82 := by kernel_rfl
noncomputable def ti83 : TI := ⟨.slice 5, 1, 24, [.slice none 0 0]⟩
theorem ti83_ok : tiOf Try.prog 83 = some ti83 := by kernel_rfl
noncomputable def ti84 : TI := ⟨.func, 1, 8, [.nilFunc]⟩
theorem ti84_ok : tiOf Try.prog 84 = some ti84 := by kernel_rfl
noncomputable def ti85 : TI := ⟨.func, 1, 8, [.nilFunc]⟩
theorem ti85_ok : tiOf Try.prog 85 = some ti85 := by kernel_rfl
noncomputable def ti86 : TI := ⟨.struct [(0, 22), (1, 68)], 2, 48, [.slice none 0 0, .slice none 0 0]⟩
theorem ti86_ok : tiOf Try.prog 86 = some ti86 := by kernel_rfl
noncomputable def ti87 : TI := ⟨.struct [(0, 22), (1, 68)], 2, 48, [.slice none 0 0, .slice none 0 0]⟩
theorem ti87_ok : tiOf Try.prog 87 = some ti87 := by kernel_rfl
noncomputable def ti88 : TI := ⟨.slice 115, 1, 24, [.slice none 0 0]⟩
theorem ti88_ok : tiOf Try.prog 88 = some ti88 := by kernel_rfl
noncomputable def ti89 : TI := ⟨.struct [(0, 88)], 1, 24, [.slice none 0 0]⟩
theorem ti89_ok : tiOf Try.prog 89 = some ti89 := by kernel_rfl
noncomputable def ti90 : TI := ⟨.struct [(0, 88)], 1, 24, [.slice none 0 0]⟩
theorem ti90_ok : tiOf Try.prog 90 = some ti90 := by kernel_rfl
noncomputable def ti91 : TI := ⟨.func, 1, 8, [.nilFunc]⟩
theorem ti91_ok : tiOf Try.prog 91 = some ti91 := by kernel_rfl
noncomputable def ti92 : TI := ⟨.func, 1, 8, [.nilFunc]⟩
theorem ti92_ok : tiOf Try.prog 92 = some ti92 := by kernel_rfl
noncomputable def ti93 : TI := ⟨.func, 1, 8, [.nilFunc]⟩
theorem ti93_ok : tiOf Try.prog 93 = some ti93 := by kernel_rfl
noncomputable def ti94 : TI := ⟨.ptr 122, 1, 8, [.pointer none]⟩
theorem ti94_ok : tiOf Try.prog 94 = some ti94 := by kernel_rfl
noncomputable def ti95 : TI := ⟨.func, 1, 8, [.nilFunc]⟩
theorem ti95_ok : tiOf Try.prog 95 = some ti95 := by kernel_rfl
noncomputable def ti96 : TI := ⟨.func, 1, 8, [.nilFunc]⟩
theorem ti96_ok : tiOf Try.prog 96 = some ti96 := by kernel_rfl
noncomputable def ti97 : TI := ⟨.func, 1, 8, [.nilFunc]⟩
theorem ti97_ok : tiOf Try.prog 97 = some ti97 := by kernel_rfl
noncomputable def ti98 : TI := ⟨.func, 1, 8, [.nilFunc]⟩
theorem ti98_ok : tiOf Try.prog 98 = some ti98 := by kernel_rfl
noncomputable def ti99 : TI := ⟨.func, 1, 8, [.nilFunc]⟩
theorem ti99_ok : tiOf Try.prog 99 = some ti99 := by kernel_rfl
noncomputable def ti100 : TI := ⟨.ptr 102, 1, 8, [.pointer none]⟩
theorem ti100_ok : tiOf Try.prog 100 = some ti100 := by kernel_rfl
noncomputable def ti101 : TI := ⟨.struct [(0, 80), (1, 3), (2, 4), (3, 3)], 4, 48, [.slice none 0 0, .int .i64 0, .bool false, .int .i64 0]⟩
theorem ti101_ok : tiOf Try.prog 101 = some ti101 := by kernel_rfl
noncomputable def ti102 : TI := ⟨.struct [(0, 80), (1, 3), (2, 4), (3, 3)], 4, 48, [.slice none 0 0, .int .i64 0, .bool false, .int .i64 0]⟩
theorem ti102_ok : tiOf Try.prog 102 = some ti102 := by kernel_rfl
noncomputable def ti103 : TI := ⟨.func, 1, 8, [.nilFunc]⟩
theorem ti103_ok : tiOf Try.prog 103 = some ti103 := by kernel_rfl
noncomputable def ti104 : TI := ⟨.ptr 106, 1, 8, [.pointer none]⟩
theorem ti104_ok : tiOf Try.prog 104 = some ti104 := by kernel_rfl
noncomputable def ti105 : TI := ⟨.struct [(0, 68), (1, 3)], 2, 32, [.slice none 0 0, .int .i64 0]⟩
theorem ti105_ok : tiOf Try.prog 105 = some ti105 := by kernel_rfl
noncomputable def ti106 : TI := ⟨.struct [(0, 68), (1, 3)], 2, 32, [.slice none 0 0, .int .i64 0]⟩
theorem ti106_ok : tiOf Try.prog 106 = some ti106 := by kernel_rfl
noncomputable def ti107 : TI := ⟨.struct [(0, 3), (1, 9), (2, 3), (3, 4), (4, 3)], 5, 48, [.int .i64 0, .string ⟨#[]⟩, .int .i64 0, .bool false, .int .i64 0]⟩
theorem ti107_ok : tiOf Try.prog 107 = some ti107 := by kernel_rfl
noncomputable def ti108 : TI := ⟨.struct [(0, 3), (1, 9), (2, 3), (3, 4), (4, 3)], 5, 48, [.int .i64 0, .string ⟨#[]⟩, .int .i64 0, .bool false, .int .i64 0]⟩
theorem ti108_ok : tiOf Try.prog 108 = some ti108 := by kernel_rfl
noncomputable def ti109 : TI := ⟨.func, 1, 8, [.nilFunc]⟩
theorem ti109_ok : tiOf Try.prog 109 = some ti109 := by kernel_rfl
noncomputable def ti110 : TI := ⟨.func, 1, 8, [.nilFunc]⟩
theorem ti110_ok : tiOf Try.prog 110 = some ti110 := by kernel_rfl
noncomputable def ti111 : TI := ⟨.func, 1, 8, [.nilFunc]⟩
theorem ti111_ok : tiOf Try.prog 111 = some ti111 := by kernel_rfl
noncomputable def ti112 : TI := ⟨.func, 1, 8, [.nilFunc]⟩
theorem ti112_ok : tiOf Try.prog 112 = some ti112 := by kernel_rfl
noncomputable def ti113 : TI := ⟨.func, 1, 8, [.nilFunc]⟩
theorem ti113_ok : tiOf Try.prog 113 = some ti113 := by kernel_rfl
noncomputable def ti114 : TI := ⟨.struct [(0, 47), (5, 68), (6, 3), (7, 3), (8, 3)], 9, 136, [.int .i64 0, .string ⟨#[]⟩, .string ⟨#[]⟩, .slice none 0 0, .slice none 0 0, .slice none 0 0, .int .i64 0, .int .i64 0, .int .i64 0]⟩
theorem ti114_ok : tiOf Try.prog 114 = some ti114 := by kernel_rfl
noncomputable def ti115 : TI := ⟨.struct [(0, 47), (5, 68), (6, 3), (7, 3), (8, 3)], 9, 136, [.int .i64 0, .string ⟨#[]⟩, .string ⟨#[]⟩, .slice none 0 0, .slice none 0 0, .slice none 0 0, .int .i64 0, .int .i64 0, .int .i64 0]⟩
theorem ti115_ok : tiOf Try.prog 115 = some ti115 := by kernel_rfl
noncomputable def ti116 : TI := ⟨.ptr 115, 1, 8, [.pointer none]⟩
theorem ti116_ok : tiOf Try.prog 116 = some ti116 := by kernel_rfl
noncomputable def ti117 : TI := ⟨.func, 1, 8, [.nilFunc]⟩
theorem ti117_ok : tiOf Try.prog 117 = some ti117 := by kernel_rfl
noncomputable def ti118 : TI := ⟨.func, 1, 8, [.nilFunc]⟩
theorem ti118_ok : tiOf Try.prog 118 = some ti118 := by kernel_rfl
noncomputable def ti119 : TI := ⟨.map 139 4, 1, 8, [.map none]⟩
theorem ti119_ok : tiOf Try.prog 119 = some ti119 := by kernel_rfl
noncomputable def ti120 : TI := ⟨.slice 123, 1, 24, [.slice none 0 0]⟩
theorem ti120_ok : tiOf Try.prog 120 = some ti120 := by kernel_rfl
noncomputable def ti121 : TI := ⟨.struct [(0, 29), (1, 120), (2, 119)], 3, 40, [.pointer none, .slice none 0 0, .map none]⟩
theorem ti121_ok : tiOf Try.prog 121 = some ti121 := by kernel_rfl
noncomputable def ti122 : TI := ⟨.struct [(0, 29), (1, 120), (2, 119)], 3, 40, [.pointer none, .slice none 0 0, .map none]⟩
theorem ti122_ok : tiOf Try.prog 122 = some ti122 := by kernel_rfl
noncomputable def ti123 : TI := ⟨.slice 126, 1, 24, [.slice none 0 0]⟩
theorem ti123_ok : tiOf Try.prog 123 = some ti123 := by kernel_rfl
noncomputable def ti124 : TI := ⟨.slice 68, 1, 24, [.slice none 0 0]⟩
theorem ti124_ok : tiOf Try.prog 124 = some ti124 := by kernel_rfl
noncomputable def ti125 : TI := ⟨.struct [(0, 43), (6, 124)], 7, 144, [.int .i64 0, .string ⟨#[]⟩, .slice none 0 0, .slice none 0 0, .slice none 0 0, .slice none 0 0, .slice none 0 0]⟩
theorem ti125_ok : tiOf Try.prog 125 = some ti125 := by kernel_rfl
noncomputable def ti126 : TI := ⟨.struct [(0, 43), (6, 124)], 7, 144, [.int .i64 0, .string ⟨#[]⟩, .slice none 0 0, .slice none 0 0, .slice none 0 0, .slice none 0 0, .slice none 0 0]⟩
theorem ti126_ok : tiOf Try.prog 126 = some ti126 := by kernel_rfl
noncomputable def ti127 : TI := ⟨.func, 1, 8, [.nilFunc]⟩
theorem ti127_ok : tiOf Try.prog 127 = some ti127 := by kernel_rfl
noncomputable def ti128 : TI := ⟨.func, 1, 8, [.nilFunc]⟩
theorem ti128_ok : tiOf Try.prog 128 = some ti128 := by kernel_rfl
noncomputable def ti129 : TI := ⟨.func, 1, 8, [.nilFunc]⟩
theorem ti129_ok : tiOf Try.prog 129 = some ti129 := by kernel_rfl
noncomputable def ti131 : TI := ⟨.func, 1, 8, [.nilFunc]⟩
theorem ti131_ok : tiOf Try.prog 131 = some ti131 := by kernel_rfl
noncomputable def ti133 : TI := ⟨.func, 1, 8, [.nilFunc]⟩
theorem ti133_ok : tiOf Try.prog 133 = some ti133 := by kernel_rfl
noncomputable def ti134 : TI := ⟨.func, 1, 8, [.nilFunc]⟩
theorem ti134_ok : tiOf Try.prog 134 = some ti134 := by kernel_rfl
noncomputable def ti135 : TI := ⟨.func, 1, 8, [.nilFunc]⟩
theorem ti135_ok : tiOf Try.prog 135 = some ti135 := by kernel_rfl
noncomputable def ti136 : TI := ⟨.func, 1, 8, [.nilFunc]⟩
theorem ti136_ok : tiOf Try.prog 136 = some ti136 := by kernel_rfl
noncomputable def ti137 : TI := ⟨.func, 1, 8, [.nilFunc]⟩
theorem ti137_ok : tiOf Try.prog 137 = some ti137 := by kernel_rfl
noncomputable def ti138 : TI := ⟨.struct [(0, 3), (1, 3), (2, 3), (3, 4)], 4, 32, [.int .i64 0, .int .i64 0, .int .i64 0, .bool false]⟩
theorem ti138_ok : tiOf Try.prog 138 = some ti138 := by kernel_rfl
noncomputable def ti139 : TI := ⟨.struct [(0, 3), (1, 3), (2, 3), (3, 4)], 4, 32, [.int .i64 0, .int .i64 0, .int .i64 0, .bool false]⟩
theorem ti139_ok : tiOf Try.prog 139 = some ti139 := by kernel_rfl
noncomputable def ti140 : TI := ⟨.func, 1, 8, [.nilFunc]⟩
theorem ti140_ok : tiOf Try.prog 140 = some ti140 := by kernel_rfl
noncomputable def ti141 : TI := ⟨.func, 1, 8, [.nilFunc]⟩
theorem ti141_ok : tiOf Try.prog 141 = some ti141 := by kernel_rfl
noncomputable def ti142 : TI := ⟨.int .u64, 1, 8, [.int .u64 0]⟩
theorem ti142_ok : tiOf Try.prog 142 = some ti142 := by kernel_rfl
noncomputable def ti143 : TI := ⟨.func, 1, 8, [.nilFunc]⟩
theorem ti143_ok : tiOf Try.prog 143 = some ti143 := by kernel_rfl
noncomputable def ti144 : TI := ⟨.func, 1, 8, [.nilFunc]⟩
theorem ti144_ok : tiOf Try.prog 144 = some ti144 := by kernel_rfl
noncomputable def ti145 : TI := ⟨.func, 1, 8, [.nilFunc]⟩
theorem ti145_ok : tiOf Try.prog 145 = some ti145 := by kernel_rfl
noncomputable def ti147 : TI := ⟨.func, 1, 8, [.nilFunc]⟩
theorem ti147_ok : tiOf Try.prog 147 = some ti147 := by kernel_rfl
noncomputable def ti148 : TI := ⟨.func, 1, 8, [.nilFunc]⟩
theorem ti148_ok : tiOf Try.prog 148 = some ti148 := by kernel_rfl
noncomputable def ti149 : TI := ⟨.func, 1, 8, [.nilFunc]⟩
theorem ti149_ok : tiOf Try.prog 149 = some ti149 := by kernel_rfl
noncomputable def ti150 : TI := ⟨.func, 1, 8, [.nilFunc]⟩
theorem ti150_ok : tiOf Try.prog 150 = some ti150 := by kernel_rfl
noncomputable def ti151 : TI := ⟨.int .u64, 1, 8, [.int .u64 0]⟩
theorem ti151_ok : tiOf Try.prog 151 = some ti151 := by kernel_rfl
noncomputable def ti152 : TI := ⟨.func, 1, 8, [.nilFunc]⟩
theorem ti152_ok : tiOf Try.prog 152 = some ti152 := by kernel_rfl
noncomputable def ti153 : TI := ⟨.func, 1, 8, [.nilFunc]⟩
theorem ti153_ok : tiOf Try.prog 153 = some ti153 := by kernel_rfl
noncomputable def ti154 : TI := ⟨.func, 1, 8, [.nilFunc]⟩
theorem ti154_ok : tiOf Try.prog 154 = some ti154 := by kernel_rfl
noncomputable def ti155 : TI := ⟨.func, 1, 8, [.nilFunc]⟩
theorem ti155_ok : tiOf Try.prog 155 = some ti155 := by kernel_rfl
noncomputable def ti156 : TI := ⟨.func, 1, 8, [.nilFunc]⟩
theorem ti156_ok : tiOf Try.prog 156 = some ti156 := by kernel_rfl
noncomputable def ti157 : TI := ⟨.func, 1, 8, [.nilFunc]⟩
theorem ti157_ok : tiOf Try.prog 157 = some ti157 := by kernel_rfl
noncomputable def ti158 : TI := ⟨.func, 1, 8, [.nilFunc]⟩
theorem ti158_ok : tiOf Try.prog 158 = some ti158 := by kernel_rfl
noncomputable def ti159 : TI := ⟨.func, 1, 8, [.nilFunc]⟩
theorem ti159_ok : tiOf Try.prog 159 = some ti159 := by kernel_rfl
noncomputable def ti160 : TI := ⟨.func, 1, 8, [.nilFunc]⟩
theorem ti160_ok : tiOf Try.prog 160 = some ti160 := by kernel_rfl
noncomputable def ti161 : TI := ⟨.func, 1, 8, [.nilFunc]⟩
theorem ti161_ok : tiOf Try.prog 161 = some ti161 := by kernel_rfl
noncomputable def ti162 : TI := ⟨.int .u32, 1, 4, [.int .u32 0]⟩
theorem ti162_ok : tiOf Try.prog 162 = some ti162 := by kernel_rfl
noncomputable def ti164 : TI := ⟨.func, 1, 8, [.nilFunc]⟩
theorem ti164_ok : tiOf Try.prog 164 = some ti164 := by kernel_rfl
noncomputable def ti165 : TI := ⟨.struct [(0, 17), (1, 17), (2, 17), (3, 9)], 4, 40, [.pointer none, .pointer none, .pointer none, .string ⟨#[]⟩]⟩
theorem ti165_ok : tiOf Try.prog 165 = some ti165 := by kernel_rfl
noncomputable def ti166 : TI := ⟨.struct [(0, 17), (1, 17), (2, 17), (3, 9)], 4, 40, [.pointer none, .pointer none, .pointer none, .string ⟨#[]⟩]⟩
theorem ti166_ok : tiOf Try.prog 166 = some ti166 := by kernel_rfl
noncomputable def ti167 : TI := ⟨.array 0 16, 0, 0, []⟩
theorem ti167_ok : tiOf Try.prog 167 = some ti167 := by kernel_rfl
noncomputable def ti168 : TI := ⟨.struct [(0, 167)], 0, 0, []⟩
theorem ti168_ok : tiOf Try.prog 168 = some ti168 := by kernel_rfl
noncomputable def ti169 : TI := ⟨.struct [(0, 167)], 0, 0, []⟩
theorem ti169_ok : tiOf Try.prog 169 = some ti169 := by kernel_rfl
noncomputable def ti170 : TI := ⟨.int .u8, 1, 1, [.int .u8 0]⟩
theorem ti170_ok : tiOf Try.prog 170 = some ti170 := by kernel_rfl
noncomputable def ti171 : TI := ⟨.int .u8, 1, 1, [.int .u8 0]⟩
theorem ti171_ok : tiOf Try.prog 171 = some ti171 := by kernel_rfl
noncomputable def ti172 : TI := ⟨.func, 1, 8, [.nilFunc]⟩
theorem ti172_ok : tiOf Try.prog 172 = some ti172 := by kernel_rfl
noncomputable def ti173 : TI := ⟨.ptr 5, 1, 8, [.pointer none]⟩
theorem ti173_ok : tiOf Try.prog 173 = some ti173 := by kernel_rfl
noncomputable def ti174 : TI := ⟨.int .i32, 1, 4, [.int .i32 0]⟩
theorem ti174_ok : tiOf Try.prog 174 = some ti174 := by kernel_rfl
noncomputable def ti175 : TI := ⟨.int .i32, 1, 4, [.int .i32 0]⟩
theorem ti175_ok : tiOf Try.prog 175 = some ti175 := by kernel_rfl
noncomputable def ti176 : TI := ⟨.struct [(0, 12), (1, 12), (2, 162), (3, 170), (4, 5), (5, 5), (6, 171), (7, 172), (8, 173), (9, 174), (10, 175)], 11, 48, [.int .u64 0, .int .u64 0, .int .u32 0, .int .u8 0, .int .u8 0, .int .u8 0, .int .u8 0, .nilFunc, .pointer none, .int .i32 0, .int .i32 0]⟩
theorem ti176_ok : tiOf Try.prog 176 = some ti176 := by kernel_rfl
noncomputable def ti177 : TI := ⟨.struct [(0, 12), (1, 12), (2, 162), (3, 170), (4, 5), (5, 5), (6, 171), (7, 172), (8, 173), (9, 174), (10, 175)], 11, 48, [.int .u64 0, .int .u64 0, .int .u32 0, .int .u8 0, .int .u8 0, .int .u8 0, .int .u8 0, .nilFunc, .pointer none, .int .i32 0, .int .i32 0]⟩
theorem ti177_ok : tiOf Try.prog 177 = some ti177 := by kernel_rfl
noncomputable def tiT : Tr TI := .node none (.node (some ti1) (.node (some ti3) (.node (some ti7) (.node (some ti15) (.node none (.node (some ti63) (.node (some ti127) (.leaf) (.leaf)) (.leaf)) (.node (some ti95) (.node (some ti159) (.leaf) (.leaf)) (.leaf))) (.node (some ti47) (.node (some ti79) (.node (some ti143) (.leaf) (.leaf)) (.leaf)) (.node (some ti111) (.node (some ti175) (.leaf) (.leaf)) (.leaf)))) (.node (some ti23) (.node (some ti39) (.node (some ti71) (.node (some ti135) (.leaf) (.leaf)) (.leaf)) (.node (some ti103) (.node (some ti167) (.leaf) (.leaf)) (.leaf))) (.node (some ti55) (.node (some ti87) (.node (some ti151) (.leaf) (.leaf)) (.leaf)) (.node (some ti119) (.leaf) (.leaf))))) (.node (some ti11) (.node (some ti19) (.node (some ti35) (.node (some ti67) (.node (some ti131) (.leaf) (.leaf)) (.leaf)) (.node (some ti99) (.leaf) (.leaf))) (.node (some ti51) (.node (some ti83) (.node (some ti147) (.leaf) (.leaf)) (.leaf)) (.node (some ti115) (.leaf) (.leaf)))) (.node (some ti27) (.node (some ti43) (.node (some ti75) (.node (some ti139) (.leaf) (.leaf)) (.leaf)) (.node (some ti107) (.node (some ti171) (.leaf) (.leaf)) (.leaf))) (.node (some ti59) (.node (some ti91) (.node (some ti155) (.leaf) (.leaf)) (.leaf)) (.node (some ti123) (.leaf) (.leaf)))))) (.node (some ti5) (.node (some ti9) (.node (some ti17) (.node (some ti33) (.node (some ti65) (.node (some ti129) (.leaf) (.leaf)) (.leaf)) (.node (some ti97) (.node (some ti161) (.leaf) (.leaf)) (.leaf))) (.node (some ti49) (.node (some ti81) (.node (some ti145) (.leaf) (.leaf)) (.leaf)) (.node (some ti113) (.node (some ti177) (.leaf) (.leaf)) (.leaf)))) (.node (some ti25) (.node (some ti41) (.node (some ti73) (.node (some ti137) (.leaf) (.leaf)) (.leaf)) (.node (some ti105) (.node (some ti169) (.leaf) (.leaf)) (.leaf))) (.node (some ti57) (.node (some ti89) (.node (some ti153) (.leaf) (.leaf)) (.leaf)) (.node (some ti121) (.leaf) (.leaf))))) (.node (some ti13) (.node (some ti21) (.node (some ti37) (.node (some ti69) (.node (some ti133) (.leaf) (.leaf)) (.leaf)) (.node (some ti101) (.node (some ti165) (.leaf) (.leaf)) (.leaf))) (.node (some ti53) (.node (some ti85) (.node (some ti149) (.leaf) (.leaf)) (.leaf)) (.node (some ti117) (.leaf) (.leaf)))) (.node (some ti29) (.node (some ti45) (.node (some ti77) (.node (some ti141) (.leaf) (.leaf)) (.leaf)) (.node (some ti109) (.node (some ti173) (.leaf) (.leaf)) (.leaf))) (.node (some ti61) (.node (some ti93) (.node (some ti157) (.leaf) (.leaf)) (.leaf)) (.node (some ti125) (.leaf) (.leaf))))))) (.node (some ti2) (.node (some ti4) (.node (some ti8) (.node (some ti16) (.node (some ti32) (.node (some ti64) (.node (some ti128) (.leaf) (.leaf)) (.leaf)) (.node (some ti96) (.node (some ti160) (.leaf) (.leaf)) (.leaf))) (.node (some ti48) (.node (some ti80) (.node (some ti144) (.leaf) (.leaf)) (.leaf)) (.node (some ti112) (.node (some ti176) (.leaf) (.leaf)) (.leaf)))) (.node (some ti24) (.node (some ti40) (.node (some ti72) (.node (some ti136) (.leaf) (.leaf)) (.leaf)) (.node (some ti104) (.node (some ti168) (.leaf) (.leaf)) (.leaf))) (.node (some ti56) (.node (some ti88) (.node (some ti152) (.leaf) (.leaf)) (.leaf)) (.node (some ti120) (.leaf) (.leaf))))) (.node (some ti12) (.node none (.node (some ti36) (.node (some ti68) (.leaf) (.leaf)) (.node (some ti100) (.node (some ti164) (.leaf) (.leaf)) (.leaf))) (.node (some ti52) (.node (some ti84) (.node (some ti148) (.leaf) (.leaf)) (.leaf)) (.node (some ti116) (.leaf) (.leaf)))) (.node (some ti28) (.node (some ti44) (.node (some ti76) (.node (some ti140) (.leaf) (.leaf)) (.leaf)) (.node (some ti108) (.node (some ti172) (.leaf) (.leaf)) (.leaf))) (.node none (.node (some ti92) (.node (some ti156) (.leaf) (.leaf)) (.leaf)) (.node (some ti124) (.leaf) (.leaf)))))) (.node (some ti6) (.node (some ti10) (.node (some ti18) (.node (some ti34) (.node (some ti66) (.leaf) (.leaf)) (.node (some ti98) (.node (some ti162) (.leaf) (.leaf)) (.leaf))) (.node (some ti50) (.node (some ti82) (.leaf) (.leaf)) (.node (some ti114) (.leaf) (.leaf)))) (.node (some ti26) (.node (some ti42) (.node (some ti74) (.node (some ti138) (.leaf) (.leaf)) (.leaf)) (.node (some ti106) (.node (some ti170) (.leaf) (.leaf)) (.leaf))) (.node none (.node (some ti90) (.node (some ti154) (.leaf) (.leaf)) (.leaf)) (.node (some ti122) (.leaf) (.leaf))))) (.node (some ti14) (.node (some ti22) (.node (some ti38) (.node (some ti70) (.node (some ti134) (.leaf) (.leaf)) (.leaf)) (.node (some ti102) (.node (some ti166) (.leaf) (.leaf)) (.leaf))) (.node (some ti54) (.node (some ti86) (.node (some ti150) (.leaf) (.leaf)) (.leaf)) (.node (some ti118) (.leaf) (.leaf)))) (.node (some ti30) (.node (some ti46) (.node none (.node (some ti142) (.leaf) (.leaf)) (.leaf)) (.node (some ti110) (.node (some ti174) (.leaf) (.leaf)) (.leaf))) (.node (some ti62) (.node (some ti94) (.node (some ti158) (.leaf) (.leaf)) (.leaf)) (.node (some ti126) (.leaf) (.leaf)))))))
theorem tiT_list : tiT.toL = [(1, ti1), (3, ti3), (7, ti7), (15, ti15), (63, ti63), (127, ti127), (95, ti95), (159, ti159), (47, ti47), (79, ti79), (143, ti143), (111, ti111), (175, ti175), (23, ti23), (39, ti39), (71, ti71), (135, ti135), (103, ti103), (167, ti167), (55, ti55), (87, ti87), (151, ti151), (119, ti119), (11, ti11), (19, ti19), (35, ti35), (67, ti67), (131, ti131), (99, ti99), (51, ti51), (83, ti83), (147, ti147), (115, ti115), (27, ti27), (43, ti43), (75, ti75), (139, ti139), (107, ti107), (171, ti171), (59, ti59), (91, ti91), (155, ti155), (123, ti123), (5, ti5), (9, ti9), (17, ti17), (33, ti33), (65, ti65), (129, ti129), (97, ti97), (161, ti161), (49, ti49), (81, ti81), (145, ti145), (113, ti113), (177, ti177), (25, ti25), (41, ti41), (73, ti73), (137, ti137), (105, ti105), (169, ti169), (57, ti57), (89, ti89), (153, ti153), (121, ti121), (13, ti13), (21, ti21), (37, ti37), (69, ti69), (133, ti133), (101, ti101), (165, ti165), (53, ti53), (85, ti85), (149, ti149), (117, ti117), (29, ti29), (45, ti45), (77, ti77), (141, ti141), (109, ti109), (173, ti173), (61, ti61), (93, ti93), (157, ti157), (125, ti125), (2, ti2), (4, ti4), (8, ti8), (16, ti16), (32, ti32), (64, ti64), (128, ti128), (96, ti96), (160, ti160), (48, ti48), (80, ti80), (144, ti144), (112, ti112), (176, ti176), (24, ti24), (40, ti40), (72, ti72), (136, ti136), (104, ti104), (168, ti168), (56, ti56), (88, ti88), (152, ti152), (120, ti120), (12, ti12), (36, ti36), (68, ti68), (100, ti100), (164, ti164), (52, ti52), (84, ti84), (148, ti148), (116, ti116), (28, ti28), (44, ti44), (76, ti76), (140, ti140), (108, ti108), (172, ti172), (92, ti92), (156, ti156), (124, ti124), (6, ti6), (10, ti10), (18, ti18), (34, ti34), (66, ti66), (98, ti98), (162, ti162), (50, ti50), (82, ti82), (114, ti114), (26, ti26), (42, ti42), (74, ti74), (138, ti138), (106, ti106), (170, ti170), (90, ti90), (154, ti154), (122, ti122), (14, ti14), (22, ti22), (38, ti38), (70, ti70), (134, ti134), (102, ti102), (166, ti166), (54, ti54), (86, ti86), (150, ti150), (118, ti118), (30, ti30), (46, ti46), (142, ti142), (110, ti110), (174, ti174), (62, ti62), (94, ti94), (158, ti158), (126, ti126)] := by kernel_rfl
theorem tiT_ok : ∀ t i, tiT.get t = some i → tiOf Try.prog t = some i := by
  refine Tr.all_get (p := fun t i => tiOf Try.prog t = some i) ?_
  rw [tiT_list]
  exact .cons ti1_ok (.cons ti3_ok (.cons ti7_ok (.cons ti15_ok (.cons ti63_ok (.cons ti127_ok (.cons ti95_ok (.cons ti159_ok (.cons ti47_ok (.cons ti79_ok (.cons ti143_ok (.cons ti111_ok (.cons ti175_ok (.cons ti23_ok (.cons ti39_ok (.cons ti71_ok (.cons ti135_ok (.cons ti103_ok (.cons ti167_ok (.cons ti55_ok (.cons ti87_ok (.cons ti151_ok (.cons ti119_ok (.cons ti11_ok (.cons ti19_ok (.cons ti35_ok (.cons ti67_ok (.cons ti131_ok (.cons ti99_ok (.cons ti51_ok (.cons ti83_ok (.cons ti147_ok (.cons ti115_ok (.cons ti27_ok (.cons ti43_ok (.cons ti75_ok (.cons ti139_ok (.cons ti107_ok (.cons ti171_ok (.cons ti59_ok (.cons ti91_ok (.cons ti155_ok (.cons ti123_ok (.cons ti5_ok (.cons ti9_ok (.cons ti17_ok (.cons ti33_ok (.cons ti65_ok (.cons ti129_ok (.cons ti97_ok (.cons ti161_ok (.cons ti49_ok (.cons ti81_ok (.cons ti145_ok (.cons ti113_ok (.cons ti177_ok (.cons ti25_ok (.cons ti41_ok (.cons ti73_ok (.cons ti137_ok (.cons ti105_ok (.cons ti169_ok (.cons ti57_ok (.cons ti89_ok (.cons ti153_ok (.cons ti121_ok (.cons ti13_ok (.cons ti21_ok (.cons ti37_ok (.cons ti69_ok (.cons ti133_ok (.cons ti101_ok (.cons ti165_ok (.cons ti53_ok (.cons ti85_ok (.cons ti149_ok (.cons ti117_ok (.cons ti29_ok (.cons ti45_ok (.cons ti77_ok (.cons ti141_ok (.cons ti109_ok (.cons ti173_ok (.cons ti61_ok (.cons ti93_ok (.cons ti157_ok (.cons ti125_ok (.cons ti2_ok (.cons ti4_ok (.cons ti8_ok (.cons ti16_ok (.cons ti32_ok (.cons ti64_ok (.cons ti128_ok (.cons ti96_ok (.cons ti160_ok (.cons ti48_ok (.cons ti80_ok (.cons ti144_ok (.cons ti112_ok (.cons ti176_ok (.cons ti24_ok (.cons ti40_ok (.cons ti72_ok (.cons ti136_ok (.cons ti104_ok (.cons ti168_ok (.cons ti56_ok (.cons ti88_ok (.cons ti152_ok (.cons ti120_ok (.cons ti12_ok (.cons ti36_ok (.cons ti68_ok (.cons ti100_ok (.cons ti164_ok (.cons ti52_ok (.cons ti84_ok (.cons ti148_ok (.cons ti116_ok (.cons ti28_ok (.cons ti44_ok (.cons ti76_ok (.cons ti140_ok (.cons ti108_ok (.cons ti172_ok (.cons ti92_ok (.cons ti156_ok (.cons ti124_ok (.cons ti6_ok (.cons ti10_ok (.cons ti18_ok (.cons ti34_ok (.cons ti66_ok (.cons ti98_ok (.cons ti162_ok (.cons ti50_ok (.cons ti82_ok (.cons ti114_ok (.cons ti26_ok (.cons ti42_ok (.cons ti74_ok (.cons ti138_ok (.cons ti106_ok (.cons ti170_ok (.cons ti90_ok (.cons ti154_ok (.cons ti122_ok (.cons ti14_ok (.cons ti22_ok (.cons ti38_ok (.cons ti70_ok (.cons ti134_ok (.cons ti102_ok (.cons ti166_ok (.cons ti54_ok (.cons ti86_ok (.cons ti150_ok (.cons ti118_ok (.cons ti30_ok (.cons ti46_ok (.cons ti142_ok (.cons ti110_ok (.cons ti174_ok (.cons ti62_ok (.cons ti94_ok (.cons ti158_ok (.cons ti126_ok (.nil))))))))))))))))))))))))))))))))))))))))))))))))))))))))))))))))))))))))))))))))))))))))))))))))))))))))))))))))))))))))))))))))))))))))))))))))))))))))))))))))))))))))
noncomputable def fnT : Tr Func := .node none (.node none (.node (some Try.f3) (.node (some Try.f7) (.node (some Try.f15) (.node (some Try.f31) (.node (some Try.f63) (.node (some Try.f127) (.leaf) (.leaf)) (.leaf)) (.node (some Try.f95) (.leaf) (.leaf))) (.node (some Try.f47) (.node (some Try.f79) (.leaf) (.leaf)) (.node (some Try.f111) (.leaf) (.leaf)))) (.node (some Try.f23) (.node (some Try.f39) (.node (some Try.f71) (.node (some Try.f135) (.leaf) (.leaf)) (.leaf)) (.node (some Try.f103) (.leaf) (.leaf))) (.node (some Try.f55) (.node (some Try.f87) (.leaf) (.leaf)) (.node (some Try.f119) (.leaf) (.leaf))))) (.node (some Try.f11) (.node (some Try.f19) (.node (some Try.f35) (.node (some Try.f67) (.node (some Try.f131) (.leaf) (.leaf)) (.leaf)) (.node (some Try.f99) (.leaf) (.leaf))) (.node (some Try.f51) (.node (some Try.f83) (.leaf) (.leaf)) (.node (some Try.f115) (.leaf) (.leaf)))) (.node (some Try.f27) (.node (some Try.f43) (.node (some Try.f75) (.leaf) (.leaf)) (.node (some Try.f107) (.leaf) (.leaf))) (.node (some Try.f59) (.node (some Try.f91) (.leaf) (.leaf)) (.node (some Try.f123) (.leaf) (.leaf)))))) (.node (some Try.f5) (.node (some Try.f9) (.node (some Try.f17) (.node (some Try.f33) (.node (some Try.f65) (.node (some Try.f129) (.leaf) (.leaf)) (.leaf)) (.node (some Try.f97) (.leaf) (.leaf))) (.node (some Try.f49) (.node (some Try.f81) (.leaf) (.leaf)) (.node (some Try.f113) (.leaf) (.leaf)))) (.node (some Try.f25) (.node (some Try.f41) (.node (some Try.f73) (.node (some Try.f137) (.leaf) (.leaf)) (.leaf)) (.node (some Try.f105) (.leaf) (.leaf))) (.node (some Try.f57) (.node (some Try.f89) (.leaf) (.leaf)) (.node (some Try.f121) (.leaf) (.leaf))))) (.node (some Try.f13) (.node (some Try.f21) (.node (some Try.f37) (.node (some Try.f69) (.node (some Try.f133) (.leaf) (.leaf)) (.leaf)) (.node (some Try.f101) (.leaf) (.leaf))) (.node (some Try.f53) (.node (some Try.f85) (.leaf) (.leaf)) (.node (some Try.f117) (.leaf) (.leaf)))) (.node (some Try.f29) (.node (some Try.f45) (.node (some Try.f77) (.leaf) (.leaf)) (.node (some Try.f109) (.leaf) (.leaf))) (.node (some Try.f61) (.node (some Try.f93) (.leaf) (.leaf)) (.node (some Try.f125) (.leaf) (.leaf))))))) (.node none (.node (some Try.f4) (.node (some Try.f8) (.node (some Try.f16) (.node (some Try.f32) (.node (some Try.f64) (.node (some Try.f128) (.leaf) (.leaf)) (.leaf)) (.node (some Try.f96) (.leaf) (.leaf))) (.node (some Try.f48) (.node (some Try.f80) (.leaf) (.leaf)) (.node (some Try.f112) (.leaf) (.leaf)))) (.node (some Try.f24) (.node (some Try.f40) (.node (some Try.f72) (.node (some Try.f136) (.leaf) (.leaf)) (.leaf)) (.node (some Try.f104) (.leaf) (.leaf))) (.node (some Try.f56) (.node (some Try.f88) (.leaf) (.leaf)) (.node (some Try.f120) (.leaf) (.leaf))))) (.node (some Try.f12) (.node (some Try.f20) (.node (some Try.f36) (.node (some Try.f68) (.node (some Try.f132) (.leaf) (.leaf)) (.leaf)) (.node (some Try.f100) (.leaf) (.leaf))) (.node (some Try.f52) (.node (some Try.f84) (.leaf) (.leaf)) (.node (some Try.f116) (.leaf) (.leaf)))) (.node (some Try.f28) (.node (some Try.f44) (.node (some Try.f76) (.leaf) (.leaf)) (.node (some Try.f108) (.leaf) (.leaf))) (.node (some Try.f60) (.node (some Try.f92) (.leaf) (.leaf)) (.node (some Try.f124) (.leaf) (.leaf)))))) (.node (some Try.f6) (.node (some Try.f10) (.node (some Try.f18) (.node (some Try.f34) (.node (some Try.f66) (.node (some Try.f130) (.leaf) (.leaf)) (.leaf)) (.node (some Try.f98) (.leaf) (.leaf))) (.node (some Try.f50) (.node (some Try.f82) (.leaf) (.leaf)) (.node (some Try.f114) (.leaf) (.leaf)))) (.node (some Try.f26) (.node (some Try.f42) (.node (some Try.f74) (.leaf) (.leaf)) (.node (some Try.f106) (.leaf) (.leaf))) (.node (some Try.f58) (.node (some Try.f90) (.leaf) (.leaf)) (.node (some Try.f122) (.leaf) (.leaf))))) (.node (some Try.f14) (.node (some Try.f22) (.node (some Try.f38) (.node (some Try.f70) (.node (some Try.f134) (.leaf) (.leaf)) (.leaf)) (.node (some Try.f102) (.leaf) (.leaf))) (.node (some Try.f54) (.node (some Try.f86) (.leaf) (.leaf)) (.node (some Try.f118) (.leaf) (.leaf)))) (.node (some Try.f30) (.node (some Try.f46) (.node (some Try.f78) (.leaf) (.leaf)) (.node (some Try.f110) (.leaf) (.leaf))) (.node (some Try.f62) (.node (some Try.f94) (.leaf) (.leaf)) (.node (some Try.f126) (.leaf) (.leaf)))))))
theorem fnT_list : fnT.toL = [(3, Try.f3), (7, Try.f7), (15, Try.f15), (31, Try.f31), (63, Try.f63), (127, Try.f127), (95, Try.f95), (47, Try.f47), (79, Try.f79), (111, Try.f111), (23, Try.f23), (39, Try.f39), (71, Try.f71), (135, Try.f135), (103, Try.f103), (55, Try.f55), (87, Try.f87), (119, Try.f119), (11, Try.f11), (19, Try.f19), (35, Try.f35), (67, Try.f67), (131, Try.f131), (99, Try.f99), (51, Try.f51), (83, Try.f83), (115, Try.f115), (27, Try.f27), (43, Try.f43), (75, Try.f75), (107, Try.f107), (59, Try.f59), (91, Try.f91), (123, Try.f123), (5, Try.f5), (9, Try.f9), (17, Try.f17), (33, Try.f33), (65, Try.f65), (129, Try.f129), (97, Try.f97), (49, Try.f49), (81, Try.f81), (113, Try.f113), (25, Try.f25), (41, Try.f41), (73, Try.f73), (137, Try.f137), (105, Try.f105), (57, Try.f57), (89, Try.f89), (121, Try.f121), (13, Try.f13), (21, Try.f21), (37, Try.f37), (69, Try.f69), (133, Try.f133), (101, Try.f101), (53, Try.f53), (85, Try.f85), (117, Try.f117), (29, Try.f29), (45, Try.f45), (77, Try.f77), (109, Try.f109), (61, Try.f61), (93, Try.f93), (125, Try.f125), (4, Try.f4), (8, Try.f8), (16, Try.f16), (32, Try.f32), (64, Try.f64), (128, Try.f128), (96, Try.f96), (48, Try.f48), (80, Try.f80), (112, Try.f112), (24, Try.f24), (40, Try.f40), (72, Try.f72), (136, Try.f136), (104, Try.f104), (56, Try.f56), (88, Try.f88), (120, Try.f120), (12, Try.f12), (20, Try.f20), (36, Try.f36), (68, Try.f68), (132, Try.f132), (100, Try.f100), (52, Try.f52), (84, Try.f84), (116, Try.f116), (28, Try.f28), (44, Try.f44), (76, Try.f76), (108, Try.f108), (60, Try.f60), (92, Try.f92), (124, Try.f124), (6, Try.f6), (10, Try.f10), (18, Try.f18), (34, Try.f34), (66, Try.f66), (130, Try.f130), (98, Try.f98), (50, Try.f50), (82, Try.f82), (114, Try.f114), (26, Try.f26), (42, Try.f42), (74, Try.f74), (106, Try.f106), (58, Try.f58), (90, Try.f90), (122, Try.f122), (14, Try.f14), (22, Try.f22), (38, Try.f38), (70, Try.f70), (134, Try.f134), (102, Try.f102), (54, Try.f54), (86, Try.f86), (118, Try.f118), (30, Try.f30), (46, Try.f46), (78, Try.f78), (110, Try.f110), (62, Try.f62), (94, Try.f94), (126, Try.f126)] := by kernel_rfl
def fnP (k : Nat) (f : Func) : Prop := Try.prog.funcs[k]? = some f ∧ (f.name == "runtime.NumGoroutine") = false
theorem fnT_ok : ∀ k f, fnT.get k = some f → Try.prog.funcs[k]? = some f ∧ (f.name == "runtime.NumGoroutine") = false := by
  refine Tr.all_get (p := fnP) ?_
  rw [fnT_list]
  exact .cons ⟨Try.func3, by kernel_rfl⟩ (.cons ⟨Try.func7, by kernel_rfl⟩ (.cons ⟨Try.func15, by kernel_rfl⟩ (.cons ⟨Try.func31, by kernel_rfl⟩ (.cons ⟨Try.func63, by kernel_rfl⟩ (.cons ⟨Try.func127, by kernel_rfl⟩ (.cons ⟨Try.func95, by kernel_rfl⟩ (.cons ⟨Try.func47, by kernel_rfl⟩ (.cons ⟨Try.func79, by kernel_rfl⟩ (.cons ⟨Try.func111, by kernel_rfl⟩ (.cons ⟨Try.func23, by kernel_rfl⟩ (.cons ⟨Try.func39, by kernel_rfl⟩ (.cons ⟨Try.func71, by kernel_rfl⟩ (.cons ⟨Try.func135, by kernel_rfl⟩ (.cons ⟨Try.func103, by kernel_rfl⟩ (.cons ⟨Try.func55, by kernel_rfl⟩ (.cons ⟨Try.func87, by kernel_rfl⟩ (.cons ⟨Try.func119, by kernel_rfl⟩ (.cons ⟨Try.func11, by kernel_rfl⟩ (.cons ⟨Try.func19, by kernel_rfl⟩ (.cons ⟨Try.func35, by kernel_rfl⟩ (.cons ⟨Try.func67, by kernel_rfl⟩ (.cons ⟨Try.func131, by kernel_rfl⟩ (.cons ⟨Try.func99, by kernel_rfl⟩ (.cons ⟨Try.func51, by kernel_rfl⟩ (.cons ⟨Try.func83, by kernel_rfl⟩ (.cons ⟨Try.func115, by kernel_rfl⟩ (.cons ⟨Try.func27, by kernel_rfl⟩ (.cons ⟨Try.func43, by kernel_rfl⟩ (.cons ⟨Try.func75, by kernel_rfl⟩ (.cons ⟨Try.func107, by kernel_rfl⟩ (.cons ⟨Try.func59, by kernel_rfl⟩ (.cons ⟨Try.func91, by kernel_rfl⟩ (.cons ⟨Try.func123, by kernel_rfl⟩ (.cons ⟨Try.func5, by kernel_rfl⟩ (.cons ⟨Try.func9, by kernel_rfl⟩ (.cons ⟨Try.func17, by kernel_rfl⟩ (.cons ⟨Try.func33, by kernel_rfl⟩ (.cons ⟨Try.func65, by kernel_rfl⟩ (.cons ⟨Try.func129, by kernel_rfl⟩ (.cons ⟨Try.func97, by kernel_rfl⟩ (.cons ⟨Try.func49, by kernel_rfl⟩ (.cons ⟨Try.func81, by kernel_rfl⟩ (.cons ⟨Try.func113, by kernel_rfl⟩ (.cons ⟨Try.func25, by kernel_rfl⟩ (.cons ⟨Try.func41, by kernel_rfl⟩ (.cons ⟨Try.func73, by kernel_rfl⟩ (.cons ⟨Try.func137, by kernel_rfl⟩ (.cons ⟨Try.func105, by kernel_rfl⟩ (.cons ⟨Try.func57, by kernel_rfl⟩ (.cons ⟨Try.func89, by kernel_rfl⟩ (.cons ⟨Try.func121, by kernel_rfl⟩ (.cons ⟨Try.func13, by kernel_rfl⟩ (.cons ⟨Try.func21, by kernel_rfl⟩ (.cons ⟨Try.func37, by kernel_rfl⟩ (.cons ⟨Try.func69, by kernel_rfl⟩ (.cons ⟨Try.func133, by kernel_rfl⟩ (.cons ⟨Try.func101, by kernel_rfl⟩ (.cons ⟨Try.func53, by kernel_rfl⟩ (.cons ⟨Try.func85, by kernel_rfl⟩ (.cons ⟨Try.func117, by kernel_rfl⟩ (.cons ⟨Try.func29, by kernel_rfl⟩ (.cons ⟨Try.func45, by kernel_rfl⟩ (.cons ⟨Try.func77, by kernel_rfl⟩ (.cons ⟨Try.func109, by kernel_rfl⟩ (.cons ⟨Try.func61, by kernel_rfl⟩ (.cons ⟨Try.func93, by kernel_rfl⟩ (.cons ⟨Try.func125, by kernel_rfl⟩ (.cons ⟨Try.func4, by kernel_rfl⟩ (.cons ⟨Try.func8, by kernel_rfl⟩ (.cons ⟨Try.func16, by kernel_rfl⟩ (.cons ⟨Try.func32, by kernel_rfl⟩ (.cons ⟨Try.func64, by kernel_rfl⟩ (.cons ⟨Try.func128, by kernel_rfl⟩ (.cons ⟨Try.func96, by kernel_rfl⟩ (.cons ⟨Try.func48, by kernel_rfl⟩ (.cons ⟨Try.func80, by kernel_rfl⟩ (.cons ⟨Try.func112, by kernel_rfl⟩ (.cons ⟨Try.func24, by kernel_rfl⟩ (.cons ⟨Try.func40, by kernel_rfl⟩ (.cons ⟨Try.func72, by kernel_rfl⟩ (.cons ⟨Try.func136, by kernel_rfl⟩ (.cons ⟨Try.func104, by kernel_rfl⟩ (.cons ⟨Try.func56, by kernel_rfl⟩ (.cons ⟨Try.func88, by kernel_rfl⟩ (.cons ⟨Try.func120, by kernel_rfl⟩ (.cons ⟨Try.func12, by kernel_rfl⟩ (.cons ⟨Try.func20, by kernel_rfl⟩ (.cons ⟨Try.func36, by kernel_rfl⟩ (.cons ⟨Try.func68, by kernel_rfl⟩ (.cons ⟨Try.func132, by kernel_rfl⟩ (.cons ⟨Try.func100, by kernel_rfl⟩ (.cons ⟨Try.func52, by kernel_rfl⟩ (.cons ⟨Try.func84, by kernel_rfl⟩ (.cons ⟨Try.func116, by kernel_rfl⟩ (.cons ⟨Try.func28, by kernel_rfl⟩ (.cons ⟨Try.func44, by kernel_rfl⟩ (.cons ⟨Try.func76, by kernel_rfl⟩ (.cons ⟨Try.func108, by kernel_rfl⟩ (.cons ⟨Try.func60, by kernel_rfl⟩ (.cons ⟨Try.func92, by kernel_rfl⟩ (.cons ⟨Try.func124, by kernel_rfl⟩ (.cons ⟨Try.func6, by kernel_rfl⟩ (.cons ⟨Try.func10, by kernel_rfl⟩ (.cons ⟨Try.func18, by kernel_rfl⟩ (.cons ⟨Try.func34, by kernel_rfl⟩ (.cons ⟨Try.func66, by kernel_rfl⟩ (.cons ⟨Try.func130, by kernel_rfl⟩ (.cons ⟨Try.func98, by kernel_rfl⟩ (.cons ⟨Try.func50, by kernel_rfl⟩ (.cons ⟨Try.func82, by kernel_rfl⟩ (.cons ⟨Try.func114, by kernel_rfl⟩ (.cons ⟨Try.func26, by kernel_rfl⟩ (.cons ⟨Try.func42, by kernel_rfl⟩ (.cons ⟨Try.func74, by kernel_rfl⟩ (.cons ⟨Try.func106, by kernel_rfl⟩ (.cons ⟨Try.func58, by kernel_rfl⟩ (.cons ⟨Try.func90, by kernel_rfl⟩ (.cons ⟨Try.func122, by kernel_rfl⟩ (.cons ⟨Try.func14, by kernel_rfl⟩ (.cons ⟨Try.func22, by kernel_rfl⟩ (.cons ⟨Try.func38, by kernel_rfl⟩ (.cons ⟨Try.func70, by kernel_rfl⟩ (.cons ⟨Try.func134, by kernel_rfl⟩ (.cons ⟨Try.func102, by kernel_rfl⟩ (.cons ⟨Try.func54, by kernel_rfl⟩ (.cons ⟨Try.func86, by kernel_rfl⟩ (.cons ⟨Try.func118, by kernel_rfl⟩ (.cons ⟨Try.func30, by kernel_rfl⟩ (.cons ⟨Try.func46, by kernel_rfl⟩ (.cons ⟨Try.func78, by kernel_rfl⟩ (.cons ⟨Try.func110, by kernel_rfl⟩ (.cons ⟨Try.func62, by kernel_rfl⟩ (.cons ⟨Try.func94, by kernel_rfl⟩ (.cons ⟨Try.func126, by kernel_rfl⟩ (.nil)))))))))))))))))))))))))))))))))))))))))))))))))))))))))))))))))))))))))))))))))))))))))))))))))))))))))))))))))))))))))))))))))))))))
noncomputable def ky7 : List KK := [.int .i64, .int .i64, .bool, .int .u8]
theorem ky7_ok : keysOf Try.prog 7 = some ky7 := by kernel_rfl
noncomputable def ky8 : List KK := [.int .i64, .int .i64, .bool, .int .u8]
theorem ky8_ok : keysOf Try.prog 8 = some ky8 := by kernel_rfl
noncomputable def ky63 : List KK := [.string, .string]
theorem ky63_ok : keysOf Try.prog 63 = some ky63 := by kernel_rfl
noncomputable def ky64 : List KK := [.string, .string]
theorem ky64_ok : keysOf Try.prog 64 = some ky64 := by kernel_rfl
noncomputable def ky65 : List KK := [.string, .int .i64, .string]
theorem ky65_ok : keysOf Try.prog 65 = some ky65 := by kernel_rfl
noncomputable def ky66 : List KK := [.string, .int .i64, .string]
theorem ky66_ok : keysOf Try.prog 66 = some ky66 := by kernel_rfl
noncomputable def ky107 : List KK := [.int .i64, .string, .int .i64, .bool, .int .i64]
theorem ky107_ok : keysOf Try.prog 107 = some ky107 := by kernel_rfl
noncomputable def ky108 : List KK := [.int .i64, .string, .int .i64, .bool, .int .i64]
theorem ky108_ok : keysOf Try.prog 108 = some ky108 := by kernel_rfl
noncomputable def ky138 : List KK := [.int .i64, .int .i64, .int .i64, .bool]
theorem ky138_ok : keysOf Try.prog 138 = some ky138 := by kernel_rfl
noncomputable def ky139 : List KK := [.int .i64, .int .i64, .int .i64, .bool]
theorem ky139_ok : keysOf Try.prog 139 = some ky139 := by kernel_rfl
noncomputable def kyT : Tr (List KK) := .node none (.node none (.node none (.node (some ky7) (.node none (.node none (.node (some ky63) (.leaf) (.leaf)) (.leaf)) (.leaf)) (.leaf)) (.node none (.leaf) (.node none (.node none (.node none (.node (some ky139) (.leaf) (.leaf)) (.leaf)) (.node (some ky107) (.leaf) (.leaf))) (.leaf)))) (.node none (.node none (.node none (.node none (.node (some ky65) (.leaf) (.leaf)) (.leaf)) (.leaf)) (.leaf)) (.leaf))) (.node none (.node none (.node (some ky8) (.node none (.node none (.node (some ky64) (.leaf) (.leaf)) (.leaf)) (.leaf)) (.leaf)) (.node none (.leaf) (.node none (.node none (.leaf) (.node (some ky108) (.leaf) (.leaf))) (.leaf)))) (.node none (.node none (.node none (.node none (.node (some ky66) (.leaf) (.leaf)) (.leaf)) (.leaf)) (.node none (.node none (.node none (.node (some ky138) (.leaf) (.leaf)) (.leaf)) (.leaf)) (.leaf))) (.leaf)))
theorem kyT_list : kyT.toL = [(7, ky7), (63, ky63), (139, ky139), (107, ky107), (65, ky65), (8, ky8), (64, ky64), (108, ky108), (66, ky66), (138, ky138)] := by kernel_rfl
theorem kyT_ok : ∀ t ks, kyT.get t = some ks → KeyOk Try.prog t ks := by
  refine Tr.all_get (p := fun t ks => KeyOk Try.prog t ks) ?_
  rw [kyT_list]
  exact .cons (keysOf_ok ky7_ok) (.cons (keysOf_ok ky63_ok) (.cons (keysOf_ok ky139_ok) (.cons (keysOf_ok ky107_ok) (.cons (keysOf_ok ky65_ok) (.cons (keysOf_ok ky8_ok) (.cons (keysOf_ok ky64_ok) (.cons (keysOf_ok ky108_ok) (.cons (keysOf_ok ky66_ok) (.cons (keysOf_ok ky138_ok) (.nil))))))))))
noncomputable def CX (σ : Sig) (kn : List (BExp × Bool)) (hkn : Known σ kn) : Ctx Try.prog := ⟨tiT.get, tiT_ok, kyT.get, kyT_ok, σ, kn, hkn⟩
theorem mixed : Try.prog.follows .mixedOrders = true := by kernel_rfl
end Go.Proofs.Ythmaggcfghjmfaa.Ev
namespace Go.Proofs.Ythmaggcfghjmfaa.Ev
set_option maxRecDepth 100000
set_option maxHeartbeats 4000000
abbrev n_law10_MatchAttrs : Nat := 9
abbrev n_law10_alive : Nat := 13
abbrev n_match_Selector : Nat := 16
abbrev n_match_Compound : Nat := 19
abbrev n_ref9_Tree_Compound : Nat := 20
abbrev n_ref9_DeepSel : Nat := 21
abbrev n_ref9_Tree_Parent : Nat := 22
abbrev n_ref9_Tree_Before : Nat := 23
abbrev n_dom_New : Nat := 24
abbrev n_ref9_New : Nat := 25
abbrev n_ref9_Tree_Children : Nat := 26
abbrev n_ref9_Tree_Place : Nat := 27
abbrev n_ref9_Deep : Nat := 28
abbrev n_match_Any : Nat := 29
abbrev n_ref9_Tree_selector : Nat := 32
abbrev n_ref9_Tree_compound : Nat := 36
abbrev n_ref9_Tree_is : Nat := 37
abbrev n_dom_Tree_put : Nat := 38
abbrev n_ref9_lowered : Nat := 39
abbrev n_match_is : Nat := 40
abbrev n_match_begin : Nat := 41
abbrev n_match_may : Nat := 42
abbrev n_match_asked_any : Nat := 43
abbrev n_match_asked_add : Nat := 44
abbrev n_ref9_Tree_front : Nat := 45
abbrev n_ref9_has : Nat := 58
abbrev n_ref9_attr : Nat := 59
abbrev n_ref9_Tree_pseudo : Nat := 60
abbrev n_dom_lowered : Nat := 61
abbrev n_ref1_Lower : Nat := 62
abbrev n_dom_Tree_Len : Nat := 63
abbrev n_match_mayCompound : Nat := 64
abbrev n_match_asked_is : Nat := 65
abbrev n_ref9_Tree_hangs : Nat := 66
abbrev n_ref9_words : Nat := 78
abbrev n_ref9_begins : Nat := 79
abbrev n_ref9_ends : Nat := 80
abbrev n_ref9_in : Nat := 81
abbrev n_ref9_Tree_last : Nat := 82
abbrev n_ref9_nth : Nat := 83
abbrev n_ref9_Tree_any : Nat := 84
abbrev n_dom_copied : Nat := 85
abbrev n_text_Lower : Nat := 86
abbrev n_match_asked_once : Nat := 87
abbrev n_match_asked_is_1 : Nat := 88
abbrev n_match_asked_compound : Nat := 89
abbrev n_match_asked_ahead : Nat := 90
abbrev n_ref9_blank : Nat := 96
abbrev n_ref9_far : Nat := 97
abbrev n_slices_Clone_string_string : Nat := 98
abbrev n_slices_Clone_api_Pair_api_Pair : Nat := 99
abbrev n_match_asked_plain : Nat := 100
abbrev n_match_asked_pseudo : Nat := 101
abbrev n_match_asked_stands : Nat := 102
abbrev n_match_asked_ahead_1 : Nat := 103
abbrev n_dom_Tree_View : Nat := 107
abbrev n_match_has : Nat := 108
abbrev n_match_attr : Nat := 109
abbrev n_dom_Tree_Parent : Nat := 110
abbrev n_dom_Tree_Place : Nat := 111
abbrev n_match_asked_last : Nat := 112
abbrev n_dom_Tree_Child : Nat := 113
abbrev n_match_nth : Nat := 114
abbrev n_dom_Tree_Before : Nat := 115
abbrev n_dom_Tree_at : Nat := 119
abbrev n_match_so : Nat := 120
abbrev n_match_word : Nat := 121
abbrev n_strings_HasPrefix : Nat := 122
abbrev n_strings_HasSuffix : Nat := 123
abbrev n_strings_Contains : Nat := 124
abbrev n_match_words : Nat := 125
abbrev n_internal_stringslite_HasPrefix : Nat := 126
abbrev n_internal_stringslite_HasSuffix : Nat := 127
abbrev n_match_words_1 : Nat := 129
abbrev n_match_white : Nat := 130
abbrev T_int : Nat := 3
abbrev T_bool : Nat := 4
abbrev T_string : Nat := 9
abbrev T_sl_api_Node : Nat := 22
abbrev T_sl_api_Part : Nat := 23
abbrev T_api_Selector : Nat := 25
abbrev T_sl_api_Selector : Nat := 28
abbrev T_sl_string : Nat := 37
abbrev T_sl_api_Attr : Nat := 38
abbrev T_sl_api_Pseudo : Nat := 39
abbrev T_api_Compound : Nat := 41
abbrev T_api_Part : Nat := 43
abbrev T_sl_api_Pair : Nat := 45
abbrev T_api_Node : Nat := 47
abbrev T_api_Pseudo : Nat := 49
abbrev T_api_Pair : Nat := 64
abbrev T_api_Attr : Nat := 66
theorem T_int_is : ∃ i, tiT.get T_int = some i ∧ i.d = .int .i64 ∧ i.size = 1 := ⟨_, (by kernel_rfl : tiT.get T_int = some ti3), by kernel_rfl, by kernel_rfl⟩
theorem T_string_is : ∃ i, tiT.get T_string = some i ∧ i.d = .string ∧ i.size = 1 := ⟨_, (by kernel_rfl : tiT.get T_string = some ti9), by kernel_rfl, by kernel_rfl⟩
end Go.Proofs.Ythmaggcfghjmfaa.Ev
namespace Go.Proofs.Ythmaggcfghjmfaa.Ev
set_option maxRecDepth 100000
set_option maxHeartbeats 4000000
set_option linter.unusedVariables false
variable {σ : Sig}
noncomputable def law10_MatchAttrs.code : Code := bodyOf Try.f9
noncomputable def law10_MatchAttrs.J0 (σ : Sig) (K : AV → Hp → Prop) (y9 y11 y13 y14 y15 y16 : AV) (H : Hp) : Prop := ∀ js : Nat → AV, wp (CX σ [] known_nil) 125440 (sR (sR (sR (sR (sR (sR (sR (sR (sR (sR (sR law10_MatchAttrs.code))))))))))) [js 0, js 1, js 2, js 3, js 4, js 5, js 6, js 7, js 8, y9, js 10, y11, js 12, y13, y14, y15, y16, js 17, js 18, js 19, js 20, js 21, js 22, js 23, js 24, js 25, js 26, js 27, js 28, js 29, js 30, js 31, js 32, js 33, js 34, js 35, js 36, js 37, js 38, js 39, js 40, js 41, js 42, js 43, js 44, js 45, js 46, js 47, js 48, js 49, js 50, js 51, js 52, js 53, js 54, js 55, js 56, js 57, js 58, js 59, js 60, js 61, js 62, js 63, js 64, js 65, js 66, js 67, js 68, js 69, js 70, js 71, js 72, js 73, js 74, js 75, js 76, js 77, js 78, js 79, js 80, js 81, js 82, js 83, js 84, js 85, js 86, js 87, js 88, js 89, js 90, js 91, js 92, js 93, js 94, js 95, js 96, js 97, js 98, js 99, js 100, js 101, js 102, js 103, js 104, js 105, js 106, js 107, js 108, js 109, js 110, js 111, js 112, js 113, js 114, js 115, js 116, js 117, js 118, js 119, js 120, js 121, js 122, js 123, js 124, js 125, js 126, js 127, js 128, js 129, js 130] H (fnQ (CX σ [] known_nil).ti Try.f9.results.toList K)
theorem law10_MatchAttrs.J0_step {K : AV → Hp → Prop} {y9 y11 y13 y14 y15 y16 : AV} {H : Hp} (h : ifB y15 (bnd (ldA true 5 H y13) fun x1 => callK Try.prog σ n_ref9_Tree_Compound [y11, (.lit (.int .i64 0)), x1] H fun x2 H3 => bnd (eqBoolR .eql y16 x2) fun x4 => ifB x4 (bnd (ldA true 5 H3 y14) fun x5 => callK Try.prog σ n_match_Compound [y9, (.lit (.int .i64 0)), x5] H3 fun x6 H7 => bnd (unR .not x6) fun x8 => K x8 H7) (K (.lit (.bool false)) H3)) (K (.lit (.bool false)) H)) : law10_MatchAttrs.J0 σ K y9 y11 y13 y14 y15 y16 H :=
  fun js => Eq.mpr (by kernel_rfl) h
theorem law10_MatchAttrs.run {a0 a1 a2 : AV} {H : Hp} {K : AV → Hp → Prop} (h : callK Try.prog σ n_law10_alive [] H fun x1 H2 => bnd (unR .not x1) fun x3 => ifB x3 (K x1 H2) (bnd (lenStr a0) fun x4 => bnd (binR .gtr x4 (.lit (.int .i64 100))) fun x5 => ifB x5 (K x1 H2) (bnd (lenStr a2) fun x6 => bnd (binR .gtr x6 (.lit (.int .i64 100))) fun x7 => ifB x7 (K x1 H2) (bnd (bldR [.lit (.string ⟨#[]⟩), .lit (.string ⟨#[]⟩)] [(0, 1, (.lit (.string ⟨#[97]⟩))), (1, 1, (.lit (.string ⟨#[111, 116, 104, 101, 114]⟩)))]) fun l8 => bnd (bldR [.lit (.string ⟨#[]⟩), .lit (.string ⟨#[]⟩)] [(0, 1, (.lit (.string ⟨#[109]⟩))), (1, 1, a0)]) fun l9 => bnd (bldR [.lit (.string ⟨#[]⟩), .lit (.string ⟨#[]⟩)] [(0, 1, (.lit (.string ⟨#[109]⟩))), (1, 1, (.lit (.string ⟨#[110, 111, 110, 101]⟩)))]) fun l10 => bnd (bldSlR [.string ⟨#[]⟩, .string ⟨#[]⟩] 2 3 H2 [(0, 2, (.agg l8)), (2, 2, (.agg l9)), (4, 2, (.agg l10))]) fun p11 => bnd (bldR [.lit (.int .i64 0), .lit (.string ⟨#[]⟩), .lit (.string ⟨#[]⟩), .lit (.slice none 0 0), .lit (.slice none 0 0)] [(0, 1, (.lit (.int .i64 (-1)))), (4, 1, p11.1)]) fun l12 => bnd (bldSlR [.int .i64 0, .string ⟨#[]⟩, .string ⟨#[]⟩, .slice none 0 0, .slice none 0 0] 5 1 p11.2 [(0, 5, (.agg l12))]) fun p13 => callK Try.prog σ n_dom_New [p13.1] p13.2 fun x14 H15 => bnd (exR x14 0) fun x16 => bnd (exR x14 1) fun x17 => callK Try.prog σ n_ref9_New [p13.1] H15 fun x18 H19 => bnd (exR x18 0) fun x20 => bnd (exR x18 1) fun x21 => bnd (bldR [.lit (.string ⟨#[]⟩), .lit (.int .i64 0), .lit (.string ⟨#[]⟩)] [(0, 1, (.lit (.string ⟨#[109]⟩))), (1, 1, a1), (2, 1, a2)]) fun l22 => bnd (bldSlR [.string ⟨#[]⟩, .int .i64 0, .string ⟨#[]⟩] 3 1 H19 [(0, 3, (.agg l22))]) fun p23 => bnd (bldR [.lit (.string ⟨#[]⟩), .lit (.slice none 0 0), .lit (.slice none 0 0), .lit (.slice none 0 0), .lit (.slice none 0 0)] [(3, 1, p23.1)]) fun l24 => allocK [.lit (.string ⟨#[]⟩), .lit (.slice none 0 0), .lit (.slice none 0 0), .lit (.slice none 0 0), .lit (.slice none 0 0)] p23.2 fun x25 H26 => bnd (stA 5 H26 x25 (.agg l24)) fun H27 => bnd (bldR [.lit (.string ⟨#[]⟩), .lit (.int .i64 0), .lit (.string ⟨#[]⟩)] [(0, 1, (.lit (.string ⟨#[110]⟩))), (1, 1, a1), (2, 1, a2)]) fun l28 => bnd (bldSlR [.string ⟨#[]⟩, .int .i64 0, .string ⟨#[]⟩] 3 1 H27 [(0, 3, (.agg l28))]) fun p29 => bnd (bldR [.lit (.string ⟨#[]⟩), .lit (.slice none 0 0), .lit (.slice none 0 0), .lit (.slice none 0 0), .lit (.slice none 0 0)] [(3, 1, p29.1)]) fun l30 => allocK [.lit (.string ⟨#[]⟩), .lit (.slice none 0 0), .lit (.slice none 0 0), .lit (.slice none 0 0), .lit (.slice none 0 0)] p29.2 fun x31 H32 => bnd (stA 5 H32 x31 (.agg l30)) fun H33 => bnd (ldA true 5 H33 x25) fun x34 => callK Try.prog σ n_match_Compound [x16, (.lit (.int .i64 0)), x34] H33 fun x35 H36 => bnd (binR .eql a1 (.lit (.int .i64 0))) fun x37 => ifB x37 (law10_MatchAttrs.J0 σ K x16 x20 x25 x31 x35 x35 H36) (bnd (binR .eql a1 (.lit (.int .i64 1))) fun x38 => ifB x38 (bnd (binR .eql a0 a2) fun x39 => bnd (eqBoolR .eql x35 x39) fun x40 => law10_MatchAttrs.J0 σ K x16 x20 x25 x31 x40 x35 H36) (bnd (binR .eql a1 (.lit (.int .i64 4))) fun x41 => ifB x41 (bnd (binR .neq a2 (.lit (.string ⟨#[]⟩))) fun x42 => ifB x42 (bnd (lenStr a0) fun x43 => bnd (lenStr a2) fun x44 => bnd (binR .geq x43 x44) fun x45 => ifB x45 (bnd (lenStr a2) fun x46 => bnd (slStr a0 none (some x46)) fun x47 => bnd (binR .eql x47 a2) fun x48 => bnd (eqBoolR .eql x35 x48) fun x49 => law10_MatchAttrs.J0 σ K x16 x20 x25 x31 x49 x35 H36) (bnd (eqBoolR .eql x35 (.lit (.bool false))) fun x50 => law10_MatchAttrs.J0 σ K x16 x20 x25 x31 x50 x35 H36)) (bnd (eqBoolR .eql x35 (.lit (.bool false))) fun x51 => law10_MatchAttrs.J0 σ K x16 x20 x25 x31 x51 x35 H36)) (bnd (binR .eql a1 (.lit (.int .i64 5))) fun x52 => ifB x52 (bnd (binR .neq a2 (.lit (.string ⟨#[]⟩))) fun x53 => ifB x53 (bnd (lenStr a0) fun x54 => bnd (lenStr a2) fun x55 => bnd (binR .geq x54 x55) fun x56 => ifB x56 (bnd (lenStr a0) fun x57 => bnd (lenStr a2) fun x58 => bnd (binR .sub x57 x58) fun x59 => bnd (slStr a0 (some x59) none) fun x60 => bnd (binR .eql x60 a2) fun x61 => bnd (eqBoolR .eql x35 x61) fun x62 => law10_MatchAttrs.J0 σ K x16 x20 x25 x31 x62 x35 H36) (bnd (eqBoolR .eql x35 (.lit (.bool false))) fun x63 => law10_MatchAttrs.J0 σ K x16 x20 x25 x31 x63 x35 H36)) (bnd (eqBoolR .eql x35 (.lit (.bool false))) fun x64 => law10_MatchAttrs.J0 σ K x16 x20 x25 x31 x64 x35 H36)) (law10_MatchAttrs.J0 σ K x16 x20 x25 x31 (.lit (.bool true)) x35 H36)))))))) : ∃ r H1, Good Try.prog σ n_law10_MatchAttrs [a0, a1, a2] H r H1 ∧ K r H1 :=
  good_of_wp (CX σ [] known_nil) mixed 125440 (fn := Try.f9) (f := n_law10_MatchAttrs) (c := law10_MatchAttrs.code) (fnT_ok 9 _ (by kernel_rfl)).1 (by kernel_rfl) (fnT_ok 9 _ (by kernel_rfl)).2 (Eq.mpr (by kernel_rfl) h)
noncomputable def law10_alive.code : Code := bodyOf Try.f13
theorem law10_alive.run {H : Hp} {K : AV → Hp → Prop} (h : bnd (bldR [.lit (.int .i64 0), .lit (.string ⟨#[]⟩), .lit (.string ⟨#[]⟩), .lit (.slice none 0 0), .lit (.slice none 0 0)] [(0, 1, (.lit (.int .i64 (-1))))]) fun l1 => bnd (bldR [.lit (.int .i64 0), .lit (.string ⟨#[]⟩), .lit (.string ⟨#[]⟩), .lit (.slice none 0 0), .lit (.slice none 0 0)] []) fun l2 => bnd (bldR [.lit (.int .i64 0), .lit (.string ⟨#[]⟩), .lit (.string ⟨#[]⟩), .lit (.slice none 0 0), .lit (.slice none 0 0)] []) fun l3 => bnd (bldR [.lit (.int .i64 0), .lit (.string ⟨#[]⟩), .lit (.string ⟨#[]⟩), .lit (.slice none 0 0), .lit (.slice none 0 0)] []) fun l4 => bnd (bldSlR [.int .i64 0, .string ⟨#[]⟩, .string ⟨#[]⟩, .slice none 0 0, .slice none 0 0] 5 4 H [(0, 5, (.agg l1)), (5, 5, (.agg l2)), (10, 5, (.agg l3)), (15, 5, (.agg l4))]) fun p5 => callK Try.prog σ n_dom_New [p5.1] p5.2 fun x6 H7 => bnd (exR x6 0) fun x8 => bnd (exR x6 1) fun x9 => bnd (bldR [.lit (.int .i64 0), .lit (.int .i64 0), .lit (.int .i64 0), .lit (.slice none 0 0)] [(0, 1, (.lit (.int .i64 6))), (1, 1, (.lit (.int .i64 2))), (2, 1, (.lit (.int .i64 1)))]) fun l10 => bnd (bldSlR [.int .i64 0, .int .i64 0, .int .i64 0, .slice none 0 0] 4 1 H7 [(0, 4, (.agg l10))]) fun p11 => bnd (bldR [.lit (.string ⟨#[]⟩), .lit (.slice none 0 0), .lit (.slice none 0 0), .lit (.slice none 0 0), .lit (.slice none 0 0)] [(4, 1, p11.1)]) fun l12 => bnd (bldR [.lit (.int .i64 0), .lit (.string ⟨#[]⟩), .lit (.slice none 0 0), .lit (.slice none 0 0), .lit (.slice none 0 0), .lit (.slice none 0 0)] [(1, 5, (.agg l12))]) fun l13 => bnd (bldSlR [.int .i64 0, .string ⟨#[]⟩, .slice none 0 0, .slice none 0 0, .slice none 0 0, .slice none 0 0] 6 1 p11.2 [(0, 6, (.agg l13))]) fun p14 => bnd (bldR [.lit (.slice none 0 0)] [(0, 1, p14.1)]) fun l15 => allocK [.lit (.slice none 0 0)] p14.2 fun x16 H17 => bnd (stA 1 H17 x16 (.agg l15)) fun H18 => bnd (ldA true 1 H18 x16) fun x19 => callK Try.prog σ n_match_Selector [x8, (.lit (.int .i64 1)), x19] H18 fun x20 H21 => ifB x20 (bnd (ldA true 1 H21 x16) fun x22 => callK Try.prog σ n_match_Selector [x8, (.lit (.int .i64 2)), x22] H21 fun x23 H24 => bnd (unR .not x23) fun x25 => ifB x25 (bnd (ldA true 1 H24 x16) fun x26 => callK Try.prog σ n_match_Selector [x8, (.lit (.int .i64 3)), x26] H24 fun x27 H28 => K x27 H28) (K (.lit (.bool false)) H24)) (K (.lit (.bool false)) H21)) : ∃ r H1, Good Try.prog σ n_law10_alive [] H r H1 ∧ K r H1 :=
  good_of_wp (CX σ [] known_nil) mixed 0 (fn := Try.f13) (f := n_law10_alive) (c := law10_alive.code) (fnT_ok 13 _ (by kernel_rfl)).1 (by kernel_rfl) (fnT_ok 13 _ (by kernel_rfl)).2 (Eq.mpr (by kernel_rfl) h)
noncomputable def match_Selector.code : Code := bodyOf Try.f16
theorem match_Selector.run {a0 a1 a2 : AV} {H : Hp} {K : AV → Hp → Prop} (h : boxK a2 H fun x1 H2 => bnd (ldA true 1 H2 x1) fun x3 => bnd (bldSlR [.slice none 0 0] 1 1 H2 [(0, 1, x3)]) fun p4 => callK Try.prog σ n_match_Any [a0, a1, p4.1] p4.2 fun x5 H6 => K x5 H6) : ∃ r H1, Good Try.prog σ n_match_Selector [a0, a1, a2] H r H1 ∧ K r H1 :=
  good_of_wp (CX σ [] known_nil) mixed 0 (fn := Try.f16) (f := n_match_Selector) (c := match_Selector.code) (fnT_ok 16 _ (by kernel_rfl)).1 (by kernel_rfl) (fnT_ok 16 _ (by kernel_rfl)).2 (Eq.mpr (by kernel_rfl) h)
noncomputable def match_Compound.code : Code := bodyOf Try.f19
theorem match_Compound.run {a0 a1 a2 : AV} {H : Hp} {K : AV → Hp → Prop} (h : boxK a2 H fun x1 H2 => bnd (ldA true 5 H2 x1) fun x3 => bnd (bldR [.lit (.int .i64 0), .lit (.string ⟨#[]⟩), .lit (.slice none 0 0), .lit (.slice none 0 0), .lit (.slice none 0 0), .lit (.slice none 0 0)] [(1, 5, x3)]) fun l4 => bnd (bldSlR [.int .i64 0, .string ⟨#[]⟩, .slice none 0 0, .slice none 0 0, .slice none 0 0, .slice none 0 0] 6 1 H2 [(0, 6, (.agg l4))]) fun p5 => bnd (bldR [.lit (.slice none 0 0)] [(0, 1, p5.1)]) fun l6 => bnd (bldSlR [.slice none 0 0] 1 1 p5.2 [(0, 1, (.agg l6))]) fun p7 => callK Try.prog σ n_match_Any [a0, a1, p7.1] p7.2 fun x8 H9 => K x8 H9) : ∃ r H1, Good Try.prog σ n_match_Compound [a0, a1, a2] H r H1 ∧ K r H1 :=
  good_of_wp (CX σ [] known_nil) mixed 0 (fn := Try.f19) (f := n_match_Compound) (c := match_Compound.code) (fnT_ok 19 _ (by kernel_rfl)).1 (by kernel_rfl) (fnT_ok 19 _ (by kernel_rfl)).2 (Eq.mpr (by kernel_rfl) h)
noncomputable def ref9_Tree_Compound.code : Code := bodyOf Try.f20
theorem ref9_Tree_Compound.run {a0 a1 a2 : AV} {H : Hp} {K : AV → Hp → Prop} (h : boxK a2 H fun x1 H2 => bnd (ldA true 5 H2 x1) fun x3 => callK Try.prog σ n_ref9_Deep [x3, (.lit (.int .i64 0))] H2 fun x4 H5 => bnd (unR .not x4) fun x6 => ifB x6 (bnd (ldA true 5 H5 x1) fun x7 => callK Try.prog σ n_ref9_Tree_compound [a0, a1, x7, (.lit (.int .i64 0))] H5 fun x8 H9 => K x8 H9) (K (.lit (.bool false)) H5)) : ∃ r H1, Good Try.prog σ n_ref9_Tree_Compound [a0, a1, a2] H r H1 ∧ K r H1 :=
  good_of_wp (CX σ [] known_nil) mixed 0 (fn := Try.f20) (f := n_ref9_Tree_Compound) (c := ref9_Tree_Compound.code) (fnT_ok 20 _ (by kernel_rfl)).1 (by kernel_rfl) (fnT_ok 20 _ (by kernel_rfl)).2 (Eq.mpr (by kernel_rfl) h)
noncomputable def ref9_DeepSel.code : Code := bodyOf Try.f21
noncomputable def ref9_DeepSel.L0 (σ : Sig) (K : AV → Hp → Prop) (y1 y2 y5 : AV) (H : Hp) : Prop := ∀ js : Nat → AV, LoopP (CX σ [] known_nil) (lB (bB (sR (sL (sR (sR ref9_DeepSel.code)))))) [js 0, y1, y2, js 3, js 4, y5, js 6, js 7, js 8, js 9, js 10, js 11, js 12, js 13, js 14, js 15, js 16, js 17, js 18, js 19, js 20, js 21, js 22, js 23, js 24, js 25, js 26] H (fun e T1 H1 => (nx (fnQ (CX σ [] known_nil).ti Try.f21.results.toList K) fun T1 H1 => wp (CX σ [] known_nil) 38 (sR (sR (sR ref9_DeepSel.code))) T1 H1 (fnQ (CX σ [] known_nil).ti Try.f21.results.toList K)) (unblock 0 e) T1 H1)
theorem ref9_DeepSel.L0_step {K : AV → Hp → Prop} {y1 y2 y5 : AV} {H : Hp} (h : bnd (shiftA y2 0) fun x1 => bnd (ldA false 1 H x1) fun x2 => bnd (lenSl x2) fun x3 => bnd (binR .lss y5 x3) fun x4 => ifB x4 (bnd (shiftA y2 0) fun x5 => bnd (ldA false 1 H x5) fun x6 => bnd (ixaSl 6 x6 y5) fun x7 => bnd (shiftA x7 1) fun x8 => bnd (ldA true 5 H x8) fun x9 => callK Try.prog σ n_ref9_Deep [x9, y1] H fun x10 H11 => ifB x10 (K (.lit (.bool true)) H11) (bnd (binR .add y5 (.lit (.int .i64 1))) fun x12 => ref9_DeepSel.L0 σ K y1 y2 x12 H11)) (K (.lit (.bool false)) H)) : ref9_DeepSel.L0 σ K y1 y2 y5 H :=
  fun js => LoopP.round (CX σ [] known_nil) mixed (g := 38) (Eq.mpr (by kernel_rfl) h)
theorem ref9_DeepSel.run {a0 a1 : AV} {H : Hp} {K : AV → Hp → Prop} (h : boxK a0 H fun x1 H2 => bnd (shiftA x1 0) fun x3 => bnd (ldA false 1 H2 x3) fun x4 => bnd (lenSl x4) fun x5 => bnd (binR .gtr x5 (.lit (.int .i64 50))) fun x6 => ifB x6 (K (.lit (.bool true)) H2) (ref9_DeepSel.L0 σ K a1 x1 (.lit (.int .i64 0)) H2)) : ∃ r H1, Good Try.prog σ n_ref9_DeepSel [a0, a1] H r H1 ∧ K r H1 :=
  good_of_wp (CX σ [] known_nil) mixed 38 (fn := Try.f21) (f := n_ref9_DeepSel) (c := ref9_DeepSel.code) (fnT_ok 21 _ (by kernel_rfl)).1 (by kernel_rfl) (fnT_ok 21 _ (by kernel_rfl)).2 (Eq.mpr (by kernel_rfl) h)
noncomputable def ref9_Tree_Parent.code : Code := bodyOf Try.f22
theorem ref9_Tree_Parent.run {a0 a1 : AV} {H : Hp} {K : AV → Hp → Prop} (h : callK Try.prog σ n_ref9_Tree_is [a0, a1] H fun x1 H2 => bnd (unR .not x1) fun x3 => ifB x3 (K (.lit (.int .i64 (-1))) H2) (bnd (nilR a0) fun x4 => bnd (shiftA x4 0) fun x5 => bnd (ldA false 1 H2 x5) fun x6 => bnd (ixaSl 5 x6 a1) fun x7 => bnd (shiftA x7 0) fun x8 => bnd (ldA false 1 H2 x8) fun x9 => K x9 H2)) : ∃ r H1, Good Try.prog σ n_ref9_Tree_Parent [a0, a1] H r H1 ∧ K r H1 :=
  good_of_wp (CX σ [] known_nil) mixed 0 (fn := Try.f22) (f := n_ref9_Tree_Parent) (c := ref9_Tree_Parent.code) (fnT_ok 22 _ (by kernel_rfl)).1 (by kernel_rfl) (fnT_ok 22 _ (by kernel_rfl)).2 (Eq.mpr (by kernel_rfl) h)
noncomputable def ref9_Tree_Before.code : Code := bodyOf Try.f23
noncomputable def ref9_Tree_Before.L0 (σ : Sig) (K : AV → Hp → Prop) (y0 y1 y5 : AV) (H : Hp) : Prop := ∀ js : Nat → AV, LoopP (CX σ [] known_nil) (lB (bB (sR (sL (sR (sR ref9_Tree_Before.code)))))) [y0, y1, js 2, js 3, js 4, y5, js 6, js 7, js 8, js 9, js 10, js 11, js 12, js 13, js 14, js 15, js 16, js 17, js 18, js 19, js 20, js 21, js 22, js 23, js 24, js 25, js 26, js 27, js 28, js 29, js 30, js 31, js 32, js 33, js 34, js 35, js 36, js 37] H (fun e T1 H1 => (nx (fnQ (CX σ [] known_nil).ti Try.f23.results.toList K) fun T1 H1 => wp (CX σ [] known_nil) 35 (sR (sR (sR ref9_Tree_Before.code))) T1 H1 (fnQ (CX σ [] known_nil).ti Try.f23.results.toList K)) (unblock 0 e) T1 H1)
theorem ref9_Tree_Before.L0_step {K : AV → Hp → Prop} {y0 y1 y5 : AV} {H : Hp} (h : bnd (binR .gtr y5 (.lit (.int .i64 0))) fun x1 => ifB x1 (bnd (nilR y0) fun x2 => bnd (shiftA x2 0) fun x3 => bnd (ldA false 1 H x3) fun x4 => bnd (ixaSl 5 x4 y5) fun x5 => bnd (shiftA x5 0) fun x6 => bnd (ldA false 1 H x6) fun x7 => bnd (nilR y0) fun x8 => bnd (shiftA x8 0) fun x9 => bnd (ldA false 1 H x9) fun x10 => bnd (ixaSl 5 x10 y1) fun x11 => bnd (shiftA x11 0) fun x12 => bnd (ldA false 1 H x12) fun x13 => bnd (binR .eql x7 x13) fun x14 => ifB x14 (K y5 H) (bnd (binR .sub y5 (.lit (.int .i64 1))) fun x15 => ref9_Tree_Before.L0 σ K y0 y1 x15 H)) (K (.lit (.int .i64 (-1))) H)) : ref9_Tree_Before.L0 σ K y0 y1 y5 H :=
  fun js => LoopP.round (CX σ [] known_nil) mixed (g := 35) (Eq.mpr (by kernel_rfl) h)
theorem ref9_Tree_Before.run {a0 a1 : AV} {H : Hp} {K : AV → Hp → Prop} (h : callK Try.prog σ n_ref9_Tree_is [a0, a1] H fun x1 H2 => bnd (unR .not x1) fun x3 => ifB x3 (K (.lit (.int .i64 (-1))) H2) (bnd (binR .eql a1 (.lit (.int .i64 0))) fun x4 => ifB x4 (K (.lit (.int .i64 (-1))) H2) (bnd (binR .sub a1 (.lit (.int .i64 1))) fun x5 => ref9_Tree_Before.L0 σ K a0 a1 x5 H2))) : ∃ r H1, Good Try.prog σ n_ref9_Tree_Before [a0, a1] H r H1 ∧ K r H1 :=
  good_of_wp (CX σ [] known_nil) mixed 35 (fn := Try.f23) (f := n_ref9_Tree_Before) (c := ref9_Tree_Before.code) (fnT_ok 23 _ (by kernel_rfl)).1 (by kernel_rfl) (fnT_ok 23 _ (by kernel_rfl)).2 (Eq.mpr (by kernel_rfl) h)
noncomputable def dom_New.code : Code := bodyOf Try.f24
noncomputable def dom_New.L0 (σ : Sig) (K : AV → Hp → Prop) (y4 y13 y14 y15 : AV) (H : Hp) : Prop := ∀ js : Nat → AV, LoopP (CX σ [] known_nil) (lB (bB (sR (sL (sR (sR (sR dom_New.code))))))) [js 0, js 1, js 2, js 3, y4, js 5, js 6, js 7, js 8, js 9, js 10, js 11, js 12, y13, y14, y15, js 16, js 17, js 18, js 19, js 20, js 21, js 22, js 23, js 24, js 25, js 26] H (fun e T1 H1 => (nx (fnQ (CX σ [] known_nil).ti Try.f24.results.toList K) fun T1 H1 => wp (CX σ [] known_nil) 57360 (sR (sR (sR (sR dom_New.code)))) T1 H1 (fnQ (CX σ [] known_nil).ti Try.f24.results.toList K)) (unblock 0 e) T1 H1)
theorem dom_New.L0_step {K : AV → Hp → Prop} {y4 y13 y14 y15 : AV} {H : Hp} (h : bnd (binR .lss y15 y14) fun x1 => ifB x1 (bnd (ixaSl 5 y13 y15) fun x2 => bnd (ldA true 5 H x2) fun x3 => allocK [.lit (.int .i64 0), .lit (.string ⟨#[]⟩), .lit (.string ⟨#[]⟩), .lit (.slice none 0 0), .lit (.slice none 0 0)] H fun x4 H5 => bnd (stA 5 H5 x4 x3) fun H6 => bnd (ldA true 5 H6 x4) fun x7 => callK Try.prog σ n_dom_Tree_put [y4, x7] H6 fun x8 H9 => bnd (binR .neq x8 (.lit (.int .i64 0))) fun x10 => ifB x10 (K (.tup [(.lit (.pointer none)), x8]) H9) (bnd (binR .add y15 (.lit (.int .i64 1))) fun x11 => dom_New.L0 σ K y4 y13 y14 x11 H9)) (K (.tup [y4, (.lit (.int .i64 0))]) H)) : dom_New.L0 σ K y4 y13 y14 y15 H :=
  fun js => LoopP.round (CX σ [] known_nil) mixed (g := 57360) (Eq.mpr (by kernel_rfl) h)
theorem dom_New.run {a0 : AV} {H : Hp} {K : AV → Hp → Prop} (h : bnd (lenSl a0) fun x1 => bnd (binR .gtr x1 (.lit (.int .i64 4096))) fun x2 => ifB x2 (K (.tup [(.lit (.pointer none)), (.lit (.int .i64 3))]) H) (bnd (bldR [.lit (.slice none 0 0)] []) fun l3 => boxK (.agg l3) H fun x4 H5 => bnd (lenSl a0) fun x6 => dom_New.L0 σ K x4 a0 x6 (.lit (.int .i64 0)) H5)) : ∃ r H1, Good Try.prog σ n_dom_New [a0] H r H1 ∧ K r H1 :=
  good_of_wp (CX σ [] known_nil) mixed 57360 (fn := Try.f24) (f := n_dom_New) (c := dom_New.code) (fnT_ok 24 _ (by kernel_rfl)).1 (by kernel_rfl) (fnT_ok 24 _ (by kernel_rfl)).2 (Eq.mpr (by kernel_rfl) h)
noncomputable def ref9_New.code : Code := bodyOf Try.f25
noncomputable def ref9_New.L0 (σ : Sig) (K : AV → Hp → Prop) (y0 y4 y5 y7 : AV) (H : Hp) : Prop := ∀ js : Nat → AV, LoopP (CX σ [] known_nil) (lB (bB (sR (sL (sR (sR (sR ref9_New.code))))))) [y0, js 1, js 2, js 3, y4, y5, js 6, y7, js 8, js 9, js 10, js 11, js 12, js 13, js 14, js 15, js 16, js 17, js 18, js 19, js 20, js 21, js 22, js 23, js 24, js 25, js 26, js 27, js 28, js 29, js 30, js 31, js 32, js 33, js 34, js 35, js 36, js 37, js 38, js 39, js 40, js 41, js 42, js 43, js 44, js 45, js 46, js 47, js 48, js 49, js 50, js 51, js 52, js 53, js 54, js 55, js 56, js 57, js 58, js 59, js 60, js 61, js 62, js 63, js 64, js 65, js 66, js 67, js 68, js 69, js 70, js 71, js 72, js 73, js 74, js 75, js 76, js 77, js 78, js 79] H (fun e T1 H1 => (nx (fnQ (CX σ [] known_nil).ti Try.f25.results.toList K) fun T1 H1 => wp (CX σ [] known_nil) 177 (sR (sR (sR (sR ref9_New.code)))) T1 H1 (fnQ (CX σ [] known_nil).ti Try.f25.results.toList K)) (unblock 0 e) T1 H1)
noncomputable def ref9_New.J1 (σ : Sig) (K : AV → Hp → Prop) (y0 y4 y5 y7 : AV) (H : Hp) : Prop := ∀ js : Nat → AV, wp (CX σ [] known_nil) 177 (sR (sR (sR (sR (bB (sL (sR (lB (bB (sR (sL (sR (sR (sR ref9_New.code)))))))))))))) [y0, js 1, js 2, js 3, y4, y5, js 6, y7, js 8, js 9, js 10, js 11, js 12, js 13, js 14, js 15, js 16, js 17, js 18, js 19, js 20, js 21, js 22, js 23, js 24, js 25, js 26, js 27, js 28, js 29, js 30, js 31, js 32, js 33, js 34, js 35, js 36, js 37, js 38, js 39, js 40, js 41, js 42, js 43, js 44, js 45, js 46, js 47, js 48, js 49, js 50, js 51, js 52, js 53, js 54, js 55, js 56, js 57, js 58, js 59, js 60, js 61, js 62, js 63, js 64, js 65, js 66, js 67, js 68, js 69, js 70, js 71, js 72, js 73, js 74, js 75, js 76, js 77, js 78, js 79] H (fun e T1 H1 => (nx (nx (fun e T1 H1 => (nx (fnQ (CX σ [] known_nil).ti Try.f25.results.toList K) fun T1 H1 => wp (CX σ [] known_nil) 177 (sR (sR (sR (sR ref9_New.code)))) T1 H1 (fnQ (CX σ [] known_nil).ti Try.f25.results.toList K)) (unblock 0 e) T1 H1) fun T1 H1 => ∀ js, LoopP (CX σ [] known_nil) (lB (bB (sR (sL (sR (sR (sR ref9_New.code))))))) (maskA 177 js 0 T1) H1 (fun e T1 H1 => (nx (fnQ (CX σ [] known_nil).ti Try.f25.results.toList K) fun T1 H1 => wp (CX σ [] known_nil) 177 (sR (sR (sR (sR ref9_New.code)))) T1 H1 (fnQ (CX σ [] known_nil).ti Try.f25.results.toList K)) (unblock 0 e) T1 H1)) fun T1 H1 => wp (CX σ [] known_nil) 177 (sR (sR (lB (bB (sR (sL (sR (sR (sR ref9_New.code))))))))) T1 H1 (nx (fun e T1 H1 => (nx (fnQ (CX σ [] known_nil).ti Try.f25.results.toList K) fun T1 H1 => wp (CX σ [] known_nil) 177 (sR (sR (sR (sR ref9_New.code)))) T1 H1 (fnQ (CX σ [] known_nil).ti Try.f25.results.toList K)) (unblock 0 e) T1 H1) fun T1 H1 => ∀ js, LoopP (CX σ [] known_nil) (lB (bB (sR (sL (sR (sR (sR ref9_New.code))))))) (maskA 177 js 0 T1) H1 (fun e T1 H1 => (nx (fnQ (CX σ [] known_nil).ti Try.f25.results.toList K) fun T1 H1 => wp (CX σ [] known_nil) 177 (sR (sR (sR (sR ref9_New.code)))) T1 H1 (fnQ (CX σ [] known_nil).ti Try.f25.results.toList K)) (unblock 0 e) T1 H1))) (unblock 1 e) T1 H1)
theorem ref9_New.L0_step {K : AV → Hp → Prop} {y0 y4 y5 y7 : AV} {H : Hp} (h : bnd (lenSl y0) fun x1 => bnd (binR .lss y5 x1) fun x2 => ifB x2 (bnd (ixaSl 5 y0 y5) fun x3 => bnd (shiftA x3 0) fun x4 => bnd (ldA false 1 H x4) fun x5 => bnd (binR .eql y5 (.lit (.int .i64 0))) fun x6 => ifB x6 (bnd (binR .neq x5 (.lit (.int .i64 (-1)))) fun x7 => ifB x7 (K (.tup [(.lit (.pointer none)), (.lit (.int .i64 10))]) H) (bnd (binR .gtr y5 (.lit (.int .i64 0))) fun x8 => ifB x8 (bnd (binR .lss x5 (.lit (.int .i64 0))) fun x9 => ifB x9 (K (.tup [(.lit (.pointer none)), (.lit (.int .i64 10))]) H) (bnd (binR .geq x5 y5) fun x10 => ifB x10 (K (.tup [(.lit (.pointer none)), (.lit (.int .i64 10))]) H) (bnd (binR .gtr y5 (.lit (.int .i64 0))) fun x11 => ifB x11 (bnd (nilR y4) fun x12 => bnd (shiftA x12 1) fun x13 => bnd (ldA false 1 H x13) fun x14 => bnd (ixaSl 1 x14 x5) fun x15 => bnd (ldA false 1 H x15) fun x16 => bnd (binR .add x16 (.lit (.int .i64 1))) fun x17 => ref9_New.J1 σ K y0 y4 y5 x17 H) (ref9_New.J1 σ K y0 y4 y5 (.lit (.int .i64 0)) H)))) (bnd (binR .gtr y5 (.lit (.int .i64 0))) fun x18 => ifB x18 (bnd (nilR y4) fun x19 => bnd (shiftA x19 1) fun x20 => bnd (ldA false 1 H x20) fun x21 => bnd (ixaSl 1 x21 x5) fun x22 => bnd (ldA false 1 H x22) fun x23 => bnd (binR .add x23 (.lit (.int .i64 1))) fun x24 => ref9_New.J1 σ K y0 y4 y5 x24 H) (ref9_New.J1 σ K y0 y4 y5 (.lit (.int .i64 0)) H)))) (bnd (binR .gtr y5 (.lit (.int .i64 0))) fun x25 => ifB x25 (bnd (binR .lss x5 (.lit (.int .i64 0))) fun x26 => ifB x26 (K (.tup [(.lit (.pointer none)), (.lit (.int .i64 10))]) H) (bnd (binR .geq x5 y5) fun x27 => ifB x27 (K (.tup [(.lit (.pointer none)), (.lit (.int .i64 10))]) H) (bnd (binR .gtr y5 (.lit (.int .i64 0))) fun x28 => ifB x28 (bnd (nilR y4) fun x29 => bnd (shiftA x29 1) fun x30 => bnd (ldA false 1 H x30) fun x31 => bnd (ixaSl 1 x31 x5) fun x32 => bnd (ldA false 1 H x32) fun x33 => bnd (binR .add x33 (.lit (.int .i64 1))) fun x34 => ref9_New.J1 σ K y0 y4 y5 x34 H) (ref9_New.J1 σ K y0 y4 y5 (.lit (.int .i64 0)) H)))) (bnd (binR .gtr y5 (.lit (.int .i64 0))) fun x35 => ifB x35 (bnd (nilR y4) fun x36 => bnd (shiftA x36 1) fun x37 => bnd (ldA false 1 H x37) fun x38 => bnd (ixaSl 1 x38 x5) fun x39 => bnd (ldA false 1 H x39) fun x40 => bnd (binR .add x40 (.lit (.int .i64 1))) fun x41 => ref9_New.J1 σ K y0 y4 y5 x41 H) (ref9_New.J1 σ K y0 y4 y5 (.lit (.int .i64 0)) H)))) (K (.tup [y4, (.lit (.int .i64 0))]) H)) : ref9_New.L0 σ K y0 y4 y5 y7 H :=
  fun js => LoopP.round (CX σ [] known_nil) mixed (g := 177) (Eq.mpr (by kernel_rfl) h)
theorem ref9_New.J1_step {K : AV → Hp → Prop} {y0 y4 y5 y7 : AV} {H : Hp} (h : bnd (binR .gtr y7 (.lit (.int .i64 256))) fun x1 => ifB x1 (K (.tup [(.lit (.pointer none)), (.lit (.int .i64 11))]) H) (bnd (nilR y4) fun x2 => bnd (shiftA x2 0) fun x3 => bnd (ldA false 1 H x3) fun x4 => bnd (ixaSl 5 y0 y5) fun x5 => bnd (ldA true 5 H x5) fun x6 => callK Try.prog σ n_ref9_lowered [x6] H fun x7 H8 => kpK (x3, some 1) H H8 (bnd (bldSlR [.int .i64 0, .string ⟨#[]⟩, .string ⟨#[]⟩, .slice none 0 0, .slice none 0 0] 5 1 H8 [(0, 5, x7)]) fun p9 => kpK (x3, some 1) H8 p9.2 (bnd (appR false 5 88 p9.2 x4 p9.1) fun p10 => bnd (nilR y4) fun x11 => bnd (shiftA x11 0) fun x12 => bnd (stA 1 p10.2 x12 p10.1) fun H13 => bnd (nilR y4) fun x14 => bnd (shiftA x14 1) fun x15 => bnd (ldA false 1 H13 x15) fun x16 => bnd (bldSlR [.int .i64 0] 1 1 H13 [(0, 1, y7)]) fun p17 => bnd (appR false 1 8 p17.2 x16 p17.1) fun p18 => bnd (nilR y4) fun x19 => bnd (shiftA x19 1) fun x20 => bnd (stA 1 p18.2 x20 p18.1) fun H21 => bnd (binR .add y5 (.lit (.int .i64 1))) fun x22 => ref9_New.L0 σ K y0 y4 x22 y7 H21)))) : ref9_New.J1 σ K y0 y4 y5 y7 H :=
  fun js => Eq.mpr (by kernel_rfl) h
theorem ref9_New.run {a0 : AV} {H : Hp} {K : AV → Hp → Prop} (h : bnd (lenSl a0) fun x1 => bnd (binR .gtr x1 (.lit (.int .i64 4096))) fun x2 => ifB x2 (K (.tup [(.lit (.pointer none)), (.lit (.int .i64 3))]) H) (bnd (bldR [.lit (.slice none 0 0), .lit (.slice none 0 0)] []) fun l3 => boxK (.agg l3) H fun x4 H5 => ref9_New.L0 σ K a0 x4 (.lit (.int .i64 0)) (.lit undef) H5)) : ∃ r H1, Good Try.prog σ n_ref9_New [a0] H r H1 ∧ K r H1 :=
  good_of_wp (CX σ [] known_nil) mixed 177 (fn := Try.f25) (f := n_ref9_New) (c := ref9_New.code) (fnT_ok 25 _ (by kernel_rfl)).1 (by kernel_rfl) (fnT_ok 25 _ (by kernel_rfl)).2 (Eq.mpr (by kernel_rfl) h)
noncomputable def ref9_Tree_Children.code : Code := bodyOf Try.f26
noncomputable def ref9_Tree_Children.L0 (σ : Sig) (K : AV → Hp → Prop) (y0 y1 y5 y6 : AV) (H : Hp) : Prop := ∀ js : Nat → AV, LoopP (CX σ [] known_nil) (lB (bB (sR (sL (sR (sR ref9_Tree_Children.code)))))) [y0, y1, js 2, js 3, js 4, y5, y6, js 7, js 8, js 9, js 10, js 11, js 12, js 13, js 14, js 15, js 16, js 17, js 18, js 19, js 20, js 21, js 22, js 23, js 24, js 25, js 26, js 27, js 28, js 29, js 30, js 31, js 32, js 33, js 34, js 35, js 36, js 37] H (fun e T1 H1 => (nx (fnQ (CX σ [] known_nil).ti Try.f26.results.toList K) fun T1 H1 => wp (CX σ [] known_nil) 99 (sR (sR (sR ref9_Tree_Children.code))) T1 H1 (fnQ (CX σ [] known_nil).ti Try.f26.results.toList K)) (unblock 0 e) T1 H1)
noncomputable def ref9_Tree_Children.J1 (σ : Sig) (K : AV → Hp → Prop) (y0 y1 y5 y6 : AV) (H : Hp) : Prop := ∀ js : Nat → AV, wp (CX σ [] known_nil) 99 (sR (sR (lB (bB (sR (sL (sR (sR ref9_Tree_Children.code)))))))) [y0, y1, js 2, js 3, js 4, y5, y6, js 7, js 8, js 9, js 10, js 11, js 12, js 13, js 14, js 15, js 16, js 17, js 18, js 19, js 20, js 21, js 22, js 23, js 24, js 25, js 26, js 27, js 28, js 29, js 30, js 31, js 32, js 33, js 34, js 35, js 36, js 37] H (nx (fun e T1 H1 => (nx (fnQ (CX σ [] known_nil).ti Try.f26.results.toList K) fun T1 H1 => wp (CX σ [] known_nil) 99 (sR (sR (sR ref9_Tree_Children.code))) T1 H1 (fnQ (CX σ [] known_nil).ti Try.f26.results.toList K)) (unblock 0 e) T1 H1) fun T1 H1 => ∀ js, LoopP (CX σ [] known_nil) (lB (bB (sR (sL (sR (sR ref9_Tree_Children.code)))))) (maskA 99 js 0 T1) H1 (fun e T1 H1 => (nx (fnQ (CX σ [] known_nil).ti Try.f26.results.toList K) fun T1 H1 => wp (CX σ [] known_nil) 99 (sR (sR (sR ref9_Tree_Children.code))) T1 H1 (fnQ (CX σ [] known_nil).ti Try.f26.results.toList K)) (unblock 0 e) T1 H1))
theorem ref9_Tree_Children.L0_step {K : AV → Hp → Prop} {y0 y1 y5 y6 : AV} {H : Hp} (h : callK Try.prog σ n_ref9_Tree_is [y0, y1] H fun x1 H2 => ifB x1 (bnd (nilR y0) fun x3 => bnd (shiftA x3 0) fun x4 => bnd (ldA false 1 H2 x4) fun x5 => bnd (lenSl x5) fun x6 => bnd (binR .lss y6 x6) fun x7 => ifB x7 (bnd (nilR y0) fun x8 => bnd (shiftA x8 0) fun x9 => bnd (ldA false 1 H2 x9) fun x10 => bnd (ixaSl 5 x10 y6) fun x11 => bnd (shiftA x11 0) fun x12 => bnd (ldA false 1 H2 x12) fun x13 => bnd (binR .eql x13 y1) fun x14 => ifB x14 (bnd (bldSlR [.int .i64 0] 1 1 H2 [(0, 1, y6)]) fun p15 => bnd (appR false 1 8 p15.2 y5 p15.1) fun p16 => ref9_Tree_Children.J1 σ K y0 y1 p16.1 y6 p16.2) (ref9_Tree_Children.J1 σ K y0 y1 y5 y6 H2)) (K y5 H2)) (K y5 H2)) : ref9_Tree_Children.L0 σ K y0 y1 y5 y6 H :=
  fun js => LoopP.round (CX σ [] known_nil) mixed (g := 99) (Eq.mpr (by kernel_rfl) h)
theorem ref9_Tree_Children.J1_step {K : AV → Hp → Prop} {y0 y1 y5 y6 : AV} {H : Hp} (h : bnd (binR .add y6 (.lit (.int .i64 1))) fun x1 => ref9_Tree_Children.L0 σ K y0 y1 y5 x1 H) : ref9_Tree_Children.J1 σ K y0 y1 y5 y6 H :=
  fun js => Eq.mpr (by kernel_rfl) h
theorem ref9_Tree_Children.run {a0 a1 : AV} {H : Hp} {K : AV → Hp → Prop} (h : bnd (binR .add a1 (.lit (.int .i64 1))) fun x1 => ref9_Tree_Children.L0 σ K a0 a1 (.lit (.slice none 0 0)) x1 H) : ∃ r H1, Good Try.prog σ n_ref9_Tree_Children [a0, a1] H r H1 ∧ K r H1 :=
  good_of_wp (CX σ [] known_nil) mixed 99 (fn := Try.f26) (f := n_ref9_Tree_Children) (c := ref9_Tree_Children.code) (fnT_ok 26 _ (by kernel_rfl)).1 (by kernel_rfl) (fnT_ok 26 _ (by kernel_rfl)).2 (Eq.mpr (by kernel_rfl) h)
noncomputable def ref9_Tree_Place.code : Code := bodyOf Try.f27
noncomputable def ref9_Tree_Place.L0 (σ : Sig) (K : AV → Hp → Prop) (y0 y1 y5 y6 : AV) (H : Hp) : Prop := ∀ js : Nat → AV, LoopP (CX σ [] known_nil) (lB (bB (sR (sL (sR (sR (sR ref9_Tree_Place.code))))))) [y0, y1, js 2, js 3, js 4, y5, y6, js 7, js 8, js 9, js 10, js 11, js 12, js 13, js 14, js 15, js 16, js 17, js 18, js 19, js 20, js 21, js 22, js 23, js 24, js 25, js 26, js 27, js 28, js 29, js 30, js 31, js 32, js 33, js 34, js 35] H (fun e T1 H1 => (nx (fnQ (CX σ [] known_nil).ti Try.f27.results.toList K) fun T1 H1 => wp (CX σ [] known_nil) 99 (sR (sR (sR (sR ref9_Tree_Place.code)))) T1 H1 (fnQ (CX σ [] known_nil).ti Try.f27.results.toList K)) (unblock 0 e) T1 H1)
noncomputable def ref9_Tree_Place.J1 (σ : Sig) (K : AV → Hp → Prop) (y0 y1 y5 y6 : AV) (H : Hp) : Prop := ∀ js : Nat → AV, wp (CX σ [] known_nil) 99 (sR (sR (lB (bB (sR (sL (sR (sR (sR ref9_Tree_Place.code))))))))) [y0, y1, js 2, js 3, js 4, y5, y6, js 7, js 8, js 9, js 10, js 11, js 12, js 13, js 14, js 15, js 16, js 17, js 18, js 19, js 20, js 21, js 22, js 23, js 24, js 25, js 26, js 27, js 28, js 29, js 30, js 31, js 32, js 33, js 34, js 35] H (nx (fun e T1 H1 => (nx (fnQ (CX σ [] known_nil).ti Try.f27.results.toList K) fun T1 H1 => wp (CX σ [] known_nil) 99 (sR (sR (sR (sR ref9_Tree_Place.code)))) T1 H1 (fnQ (CX σ [] known_nil).ti Try.f27.results.toList K)) (unblock 0 e) T1 H1) fun T1 H1 => ∀ js, LoopP (CX σ [] known_nil) (lB (bB (sR (sL (sR (sR (sR ref9_Tree_Place.code))))))) (maskA 99 js 0 T1) H1 (fun e T1 H1 => (nx (fnQ (CX σ [] known_nil).ti Try.f27.results.toList K) fun T1 H1 => wp (CX σ [] known_nil) 99 (sR (sR (sR (sR ref9_Tree_Place.code)))) T1 H1 (fnQ (CX σ [] known_nil).ti Try.f27.results.toList K)) (unblock 0 e) T1 H1))
theorem ref9_Tree_Place.L0_step {K : AV → Hp → Prop} {y0 y1 y5 y6 : AV} {H : Hp} (h : bnd (binR .lss y6 y1) fun x1 => ifB x1 (bnd (nilR y0) fun x2 => bnd (shiftA x2 0) fun x3 => bnd (ldA false 1 H x3) fun x4 => bnd (ixaSl 5 x4 y6) fun x5 => bnd (shiftA x5 0) fun x6 => bnd (ldA false 1 H x6) fun x7 => bnd (nilR y0) fun x8 => bnd (shiftA x8 0) fun x9 => bnd (ldA false 1 H x9) fun x10 => bnd (ixaSl 5 x10 y1) fun x11 => bnd (shiftA x11 0) fun x12 => bnd (ldA false 1 H x12) fun x13 => bnd (binR .eql x7 x13) fun x14 => ifB x14 (bnd (binR .add y5 (.lit (.int .i64 1))) fun x15 => ref9_Tree_Place.J1 σ K y0 y1 x15 y6 H) (ref9_Tree_Place.J1 σ K y0 y1 y5 y6 H)) (K y5 H)) : ref9_Tree_Place.L0 σ K y0 y1 y5 y6 H :=
  fun js => LoopP.round (CX σ [] known_nil) mixed (g := 99) (Eq.mpr (by kernel_rfl) h)
theorem ref9_Tree_Place.J1_step {K : AV → Hp → Prop} {y0 y1 y5 y6 : AV} {H : Hp} (h : bnd (binR .add y6 (.lit (.int .i64 1))) fun x1 => ref9_Tree_Place.L0 σ K y0 y1 y5 x1 H) : ref9_Tree_Place.J1 σ K y0 y1 y5 y6 H :=
  fun js => Eq.mpr (by kernel_rfl) h
theorem ref9_Tree_Place.run {a0 a1 : AV} {H : Hp} {K : AV → Hp → Prop} (h : callK Try.prog σ n_ref9_Tree_is [a0, a1] H fun x1 H2 => bnd (unR .not x1) fun x3 => ifB x3 (K (.lit (.int .i64 0)) H2) (ref9_Tree_Place.L0 σ K a0 a1 (.lit (.int .i64 1)) (.lit (.int .i64 1)) H2)) : ∃ r H1, Good Try.prog σ n_ref9_Tree_Place [a0, a1] H r H1 ∧ K r H1 :=
  good_of_wp (CX σ [] known_nil) mixed 99 (fn := Try.f27) (f := n_ref9_Tree_Place) (c := ref9_Tree_Place.code) (fnT_ok 27 _ (by kernel_rfl)).1 (by kernel_rfl) (fnT_ok 27 _ (by kernel_rfl)).2 (Eq.mpr (by kernel_rfl) h)
noncomputable def ref9_Deep.code : Code := bodyOf Try.f28
noncomputable def ref9_Deep.L0 (σ : Sig) (K : AV → Hp → Prop) (y1 y2 y5 y6 y7 : AV) (H : Hp) : Prop := ∀ js : Nat → AV, LoopP (CX σ [] known_nil) (lB (bB (sR (sL (sR ref9_Deep.code))))) [js 0, y1, y2, js 3, js 4, y5, y6, y7, js 8, js 9, js 10, js 11, js 12, js 13, js 14, js 15, js 16, js 17, js 18, js 19, js 20, js 21, js 22, js 23, js 24, js 25, js 26, js 27, js 28, js 29, js 30, js 31, js 32, js 33, js 34, js 35, js 36, js 37, js 38, js 39, js 40, js 41, js 42, js 43, js 44, js 45, js 46] H (fun e T1 H1 => (nx (fnQ (CX σ [] known_nil).ti Try.f28.results.toList K) fun T1 H1 => wp (CX σ [] known_nil) 230 (sR (sR ref9_Deep.code)) T1 H1 (fnQ (CX σ [] known_nil).ti Try.f28.results.toList K)) (unblock 0 e) T1 H1)
noncomputable def ref9_Deep.J1 (σ : Sig) (K : AV → Hp → Prop) (y1 y2 y5 y6 y7 : AV) (H : Hp) : Prop := ∀ js : Nat → AV, wp (CX σ [] known_nil) 230 (sR (sR (lB (bB (sR (sL (sR ref9_Deep.code))))))) [js 0, y1, y2, js 3, js 4, y5, y6, y7, js 8, js 9, js 10, js 11, js 12, js 13, js 14, js 15, js 16, js 17, js 18, js 19, js 20, js 21, js 22, js 23, js 24, js 25, js 26, js 27, js 28, js 29, js 30, js 31, js 32, js 33, js 34, js 35, js 36, js 37, js 38, js 39, js 40, js 41, js 42, js 43, js 44, js 45, js 46] H (nx (fun e T1 H1 => (nx (fnQ (CX σ [] known_nil).ti Try.f28.results.toList K) fun T1 H1 => wp (CX σ [] known_nil) 230 (sR (sR ref9_Deep.code)) T1 H1 (fnQ (CX σ [] known_nil).ti Try.f28.results.toList K)) (unblock 0 e) T1 H1) fun T1 H1 => ∀ js, LoopP (CX σ [] known_nil) (lB (bB (sR (sL (sR ref9_Deep.code))))) (maskA 230 js 0 T1) H1 (fun e T1 H1 => (nx (fnQ (CX σ [] known_nil).ti Try.f28.results.toList K) fun T1 H1 => wp (CX σ [] known_nil) 230 (sR (sR ref9_Deep.code)) T1 H1 (fnQ (CX σ [] known_nil).ti Try.f28.results.toList K)) (unblock 0 e) T1 H1))
noncomputable def ref9_Deep.L2 (σ : Sig) (K : AV → Hp → Prop) (y1 y2 y5 y6 y7 : AV) (H : Hp) : Prop := ∀ js : Nat → AV, LoopP (CX σ [] known_nil) (lB (bB (sR (sR (sR (sR (bB (sL (sR (lB (bB (sR (sL (sR ref9_Deep.code)))))))))))))) [js 0, y1, y2, js 3, js 4, y5, y6, y7, js 8, js 9, js 10, js 11, js 12, js 13, js 14, js 15, js 16, js 17, js 18, js 19, js 20, js 21, js 22, js 23, js 24, js 25, js 26, js 27, js 28, js 29, js 30, js 31, js 32, js 33, js 34, js 35, js 36, js 37, js 38, js 39, js 40, js 41, js 42, js 43, js 44, js 45, js 46] H (fun e T1 H1 => (fun e T1 H1 => (nx (nx (fun e T1 H1 => (nx (fnQ (CX σ [] known_nil).ti Try.f28.results.toList K) fun T1 H1 => wp (CX σ [] known_nil) 230 (sR (sR ref9_Deep.code)) T1 H1 (fnQ (CX σ [] known_nil).ti Try.f28.results.toList K)) (unblock 0 e) T1 H1) fun T1 H1 => ∀ js, LoopP (CX σ [] known_nil) (lB (bB (sR (sL (sR ref9_Deep.code))))) (maskA 230 js 0 T1) H1 (fun e T1 H1 => (nx (fnQ (CX σ [] known_nil).ti Try.f28.results.toList K) fun T1 H1 => wp (CX σ [] known_nil) 230 (sR (sR ref9_Deep.code)) T1 H1 (fnQ (CX σ [] known_nil).ti Try.f28.results.toList K)) (unblock 0 e) T1 H1)) fun T1 H1 => ∀ js, wp (CX σ [] known_nil) 230 (sR (sR (lB (bB (sR (sL (sR ref9_Deep.code))))))) (maskA 230 js 0 T1) H1 (nx (fun e T1 H1 => (nx (fnQ (CX σ [] known_nil).ti Try.f28.results.toList K) fun T1 H1 => wp (CX σ [] known_nil) 230 (sR (sR ref9_Deep.code)) T1 H1 (fnQ (CX σ [] known_nil).ti Try.f28.results.toList K)) (unblock 0 e) T1 H1) fun T1 H1 => ∀ js, LoopP (CX σ [] known_nil) (lB (bB (sR (sL (sR ref9_Deep.code))))) (maskA 230 js 0 T1) H1 (fun e T1 H1 => (nx (fnQ (CX σ [] known_nil).ti Try.f28.results.toList K) fun T1 H1 => wp (CX σ [] known_nil) 230 (sR (sR ref9_Deep.code)) T1 H1 (fnQ (CX σ [] known_nil).ti Try.f28.results.toList K)) (unblock 0 e) T1 H1))) (unblock 1 e) T1 H1) (unblock 2 e) T1 H1)
theorem ref9_Deep.L0_step {K : AV → Hp → Prop} {y1 y2 y5 y6 y7 : AV} {H : Hp} (h : bnd (shiftA y2 4) fun x1 => bnd (ldA false 1 H x1) fun x2 => bnd (lenSl x2) fun x3 => bnd (binR .lss y5 x3) fun x4 => ifB x4 (bnd (shiftA y2 4) fun x5 => bnd (ldA false 1 H x5) fun x6 => bnd (ixaSl 4 x6 y5) fun x7 => bnd (ldA true 4 H x7) fun x8 => allocK [.lit (.int .i64 0), .lit (.int .i64 0), .lit (.int .i64 0), .lit (.slice none 0 0)] H fun x9 H10 => bnd (stA 4 H10 x9 x8) fun H11 => bnd (shiftA x9 0) fun x12 => bnd (ldA false 1 H11 x12) fun x13 => bnd (binR .neq x13 (.lit (.int .i64 7))) fun x14 => ifB x14 (bnd (shiftA x9 0) fun x15 => bnd (ldA false 1 H11 x15) fun x16 => bnd (binR .neq x16 (.lit (.int .i64 8))) fun x17 => ifB x17 (ref9_Deep.J1 σ K y1 y2 y5 x9 y7 H11) (bnd (binR .geq y1 (.lit (.int .i64 8))) fun x18 => ifB x18 (K (.lit (.bool true)) H11) (ref9_Deep.L2 σ K y1 y2 y5 x9 (.lit (.int .i64 0)) H11))) (bnd (binR .geq y1 (.lit (.int .i64 8))) fun x19 => ifB x19 (K (.lit (.bool true)) H11) (ref9_Deep.L2 σ K y1 y2 y5 x9 (.lit (.int .i64 0)) H11))) (K (.lit (.bool false)) H)) : ref9_Deep.L0 σ K y1 y2 y5 y6 y7 H :=
  fun js => LoopP.round (CX σ [] known_nil) mixed (g := 230) (Eq.mpr (by kernel_rfl) h)
theorem ref9_Deep.J1_step {K : AV → Hp → Prop} {y1 y2 y5 y6 y7 : AV} {H : Hp} (h : bnd (binR .add y5 (.lit (.int .i64 1))) fun x1 => ref9_Deep.L0 σ K y1 y2 x1 y6 y7 H) : ref9_Deep.J1 σ K y1 y2 y5 y6 y7 H :=
  fun js => Eq.mpr (by kernel_rfl) h
theorem ref9_Deep.L2_step {K : AV → Hp → Prop} {y1 y2 y5 y6 y7 : AV} {H : Hp} (h : bnd (shiftA y6 3) fun x1 => bnd (ldA false 1 H x1) fun x2 => bnd (lenSl x2) fun x3 => bnd (binR .lss y7 x3) fun x4 => ifB x4 (bnd (shiftA y6 3) fun x5 => bnd (ldA false 1 H x5) fun x6 => bnd (ixaSl 1 x6 y7) fun x7 => bnd (ldA true 1 H x7) fun x8 => bnd (binR .add y1 (.lit (.int .i64 1))) fun x9 => callK Try.prog σ n_ref9_DeepSel [x8, x9] H fun x10 H11 => ifB x10 (K (.lit (.bool true)) H11) (bnd (binR .add y7 (.lit (.int .i64 1))) fun x12 => ref9_Deep.L2 σ K y1 y2 y5 y6 x12 H11)) (ref9_Deep.J1 σ K y1 y2 y5 y6 y7 H)) : ref9_Deep.L2 σ K y1 y2 y5 y6 y7 H :=
  fun js => LoopP.round (CX σ [] known_nil) mixed (g := 230) (Eq.mpr (by kernel_rfl) h)
theorem ref9_Deep.run {a0 a1 : AV} {H : Hp} {K : AV → Hp → Prop} (h : boxK a0 H fun x1 H2 => ref9_Deep.L0 σ K a1 x1 (.lit (.int .i64 0)) (.lit undef) (.lit undef) H2) : ∃ r H1, Good Try.prog σ n_ref9_Deep [a0, a1] H r H1 ∧ K r H1 :=
  good_of_wp (CX σ [] known_nil) mixed 230 (fn := Try.f28) (f := n_ref9_Deep) (c := ref9_Deep.code) (fnT_ok 28 _ (by kernel_rfl)).1 (by kernel_rfl) (fnT_ok 28 _ (by kernel_rfl)).2 (Eq.mpr (by kernel_rfl) h)
noncomputable def match_Any.code : Code := bodyOf Try.f29
noncomputable def match_Any.L0 (σ : Sig) (K : AV → Hp → Prop) (y1 y2 y7 y17 y18 : AV) (H : Hp) : Prop := ∀ js : Nat → AV, LoopP (CX σ [] known_nil) (lB (bB (sR (sL (sR (sR (sR match_Any.code))))))) [js 0, y1, y2, js 3, js 4, js 5, js 6, y7, js 8, js 9, js 10, js 11, js 12, js 13, js 14, js 15, js 16, y17, y18, js 19, js 20, js 21, js 22, js 23, js 24, js 25, js 26, js 27, js 28, js 29, js 30, js 31, js 32, js 33, js 34, js 35, js 36] H (fun e T1 H1 => (nx (fnQ (CX σ [] known_nil).ti Try.f29.results.toList K) fun T1 H1 => wp (CX σ [] known_nil) 393350 (sR (sR (sR (sR match_Any.code)))) T1 H1 (fnQ (CX σ [] known_nil).ti Try.f29.results.toList K)) (unblock 0 e) T1 H1)
theorem match_Any.L0_step {K : AV → Hp → Prop} {y1 y2 y7 y17 y18 : AV} {H : Hp} (h : bnd (binR .lss y18 y17) fun x1 => ifB x1 (bnd (binR .add y18 (.lit (.int .i64 1))) fun x2 => bnd (slSl 1 y2 (some y18) (some x2) none) fun x3 => callK Try.prog σ n_match_may [x3, (.lit (.int .i64 8))] H fun x4 H5 => ifB x4 (callK Try.prog σ n_match_asked_add [y7, x3] H5 fun x6 H7 => callK Try.prog σ n_match_asked_any [y7, y1, x6] H7 fun x8 H9 => ifB x8 (K (.lit (.bool true)) H9) (bnd (binR .add y18 (.lit (.int .i64 1))) fun x10 => match_Any.L0 σ K y1 y2 y7 y17 x10 H9)) (bnd (binR .add y18 (.lit (.int .i64 1))) fun x11 => match_Any.L0 σ K y1 y2 y7 y17 x11 H5)) (K (.lit (.bool false)) H)) : match_Any.L0 σ K y1 y2 y7 y17 y18 H :=
  fun js => LoopP.round (CX σ [] known_nil) mixed (g := 393350) (Eq.mpr (by kernel_rfl) h)
theorem match_Any.run {a0 a1 a2 : AV} {H : Hp} {K : AV → Hp → Prop} (h : callK Try.prog σ n_match_is [a0, a1] H fun x1 H2 => bnd (unR .not x1) fun x3 => ifB x3 (K (.lit (.bool false)) H2) (callK Try.prog σ n_match_begin [a0] H2 fun x4 H5 => bnd (lenSl a2) fun x6 => match_Any.L0 σ K a1 a2 x4 x6 (.lit (.int .i64 0)) H5)) : ∃ r H1, Good Try.prog σ n_match_Any [a0, a1, a2] H r H1 ∧ K r H1 :=
  good_of_wp (CX σ [] known_nil) mixed 393350 (fn := Try.f29) (f := n_match_Any) (c := match_Any.code) (fnT_ok 29 _ (by kernel_rfl)).1 (by kernel_rfl) (fnT_ok 29 _ (by kernel_rfl)).2 (Eq.mpr (by kernel_rfl) h)
noncomputable def ref9_Tree_selector.code : Code := bodyOf Try.f32
theorem ref9_Tree_selector.run {a0 a1 a2 a3 : AV} {H : Hp} {K : AV → Hp → Prop} (h : boxK a2 H fun x1 H2 => callK Try.prog σ n_ref9_Tree_is [a0, a1] H2 fun x3 H4 => bnd (unR .not x3) fun x5 => ifB x5 (K (.lit (.bool false)) H4) (bnd (shiftA x1 0) fun x6 => bnd (ldA false 1 H4 x6) fun x7 => bnd (lenSl x7) fun x8 => bnd (binR .eql x8 (.lit (.int .i64 0))) fun x9 => ifB x9 (K (.lit (.bool false)) H4) (bnd (nilR a0) fun x10 => bnd (shiftA x10 0) fun x11 => bnd (ldA false 1 H4 x11) fun x12 => bnd (lenSl x12) fun x13 => bnd (shiftA x1 0) fun x14 => bnd (ldA false 1 H4 x14) fun x15 => bnd (lenSl x15) fun x16 => bnd (binR .mul x13 x16) fun x17 => bnd (mkSlR [.int .i64 0] 1 8 H4 x17 x17) fun p18 => bnd (ldA true 1 p18.2 x1) fun x19 => bnd (shiftA x1 0) fun x20 => bnd (ldA false 1 p18.2 x20) fun x21 => bnd (lenSl x21) fun x22 => callK Try.prog σ n_ref9_Tree_front [a0, a1, x19, x22, a3, p18.1] p18.2 fun x23 H24 => K x23 H24))) : ∃ r H1, Good Try.prog σ n_ref9_Tree_selector [a0, a1, a2, a3] H r H1 ∧ K r H1 :=
  good_of_wp (CX σ [] known_nil) mixed 0 (fn := Try.f32) (f := n_ref9_Tree_selector) (c := ref9_Tree_selector.code) (fnT_ok 32 _ (by kernel_rfl)).1 (by kernel_rfl) (fnT_ok 32 _ (by kernel_rfl)).2 (Eq.mpr (by kernel_rfl) h)
end Go.Proofs.Ythmaggcfghjmfaa.Ev
