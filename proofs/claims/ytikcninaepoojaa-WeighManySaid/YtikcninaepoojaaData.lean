/- The plain data of package api, and how they stand as abstract values. -/
import Derived.Test.YtikcninaepoojaaSim
import Derived.Test.YtikcninaepoojaaLaw
namespace Go.Proofs.Ytikcninaepoojaa.Ev
set_option linter.unusedVariables false
set_option linter.unusedSimpArgs false

structure At where
  name : ByteArray
  op : Int
  text : ByteArray

mutual
inductive Pt where
  | mk (comb : Int) (c : Cp)
inductive Cp where
  | mk (tag : ByteArray) (ids classes : List ByteArray) (attrs : List At) (pseudos : List Ps)
inductive Ps where
  | mk (kind a b : Int) (list : List (List Pt))
end

def Pt.comb : Pt → Int | .mk k _ => k
def Pt.c : Pt → Cp | .mk _ c => c
def Cp.tag : Cp → ByteArray | .mk t _ _ _ _ => t
def Cp.ids : Cp → List ByteArray | .mk _ i _ _ _ => i
def Cp.classes : Cp → List ByteArray | .mk _ _ c _ _ => c
def Cp.attrs : Cp → List At | .mk _ _ _ a _ => a
def Cp.pseudos : Cp → List Ps | .mk _ _ _ _ p => p
def Ps.kind : Ps → Int | .mk k _ _ _ => k
def Ps.a : Ps → Int | .mk _ a _ _ => a
def Ps.b : Ps → Int | .mk _ _ b _ => b
def Ps.list : Ps → List (List Pt) | .mk _ _ _ l => l
abbrev Sl := List Pt

structure ST where
  prop : Int
  kind : Int
  n : Int
  imp : Bool

structure RL where
  sels : List Sl
  sets : List ST

structure Nd where
  parent : Int
  tag : ByteArray
  id : ByteArray
  classes : List ByteArray
  attrs : List (ByteArray × ByteArray)

def encAt (a : At) : List AV := [Sx a.name, I a.op, Sx a.text]
def strs (l : List ByteArray) : AV := .imm 1 (l.map fun s => [Sx s])

mutual
def encPt : Pt → List AV
  | .mk k c => I k :: encCp c
def encCp : Cp → List AV
  | .mk t i c a p => [Sx t, strs i, strs c, .imm 3 (a.map encAt), .imm 4 (encPss p)]
def encPs : Ps → List AV
  | .mk k a b l => [I k, I a, I b, .imm 1 (encSls l)]
def encPts : List Pt → List (List AV)
  | [] => []
  | p :: r => encPt p :: encPts r
def encPss : List Ps → List (List AV)
  | [] => []
  | p :: r => encPs p :: encPss r
def encSls : List (List Pt) → List (List AV)
  | [] => []
  | s :: r => [.imm 6 (encPts s)] :: encSls r
end

theorem encPts_map : ∀ (l : List Pt), encPts l = l.map encPt
  | [] => rfl
  | p :: r => by rw [encPts, encPts_map r]; rfl
theorem encPss_map : ∀ (l : List Ps), encPss l = l.map encPs
  | [] => rfl
  | p :: r => by rw [encPss, encPss_map r]; rfl
def encSl (s : Sl) : List AV := [.imm 6 (s.map encPt)]
theorem encSls_map : ∀ (l : List Sl), encSls l = l.map encSl
  | [] => rfl
  | s :: r => by rw [encSls, encSls_map r, encPts_map]; rfl
theorem encPt_eq (p : Pt) : encPt p = I p.comb :: encCp p.c := by cases p; rfl
theorem encCp_eq (c : Cp) : encCp c = [Sx c.tag, strs c.ids, strs c.classes, .imm 3 (c.attrs.map encAt), .imm 4 (c.pseudos.map encPs)] := by
  cases c; rw [encCp, encPss_map]; rfl
theorem encPs_eq (p : Ps) : encPs p = [I p.kind, I p.a, I p.b, .imm 1 (p.list.map encSl)] := by
  cases p; rw [encPs, encSls_map]; rfl
@[simp] theorem len_encPt (p : Pt) : (encPt p).length = 6 := by rw [encPt_eq, encCp_eq]; rfl
@[simp] theorem len_encCp (p : Cp) : (encCp p).length = 5 := by rw [encCp_eq]; rfl
@[simp] theorem len_encPs (p : Ps) : (encPs p).length = 4 := by rw [encPs_eq]; rfl
@[simp] theorem len_encSl (p : Sl) : (encSl p).length = 1 := rfl
@[simp] theorem len_encAt (p : At) : (encAt p).length = 3 := rfl

def sls (l : List Sl) : AV := .imm 1 (l.map encSl)
def encST (s : ST) : List AV := [I s.prop, I s.kind, I s.n, Bo s.imp]
def encRL (r : RL) : List AV := [sls r.sels, .imm 4 (r.sets.map encST)]
def rls (l : List RL) : AV := .imm 2 (l.map encRL)
def encPr (p : ByteArray × ByteArray) : List AV := [Sx p.1, Sx p.2]
def encNd (n : Nd) : List AV := [I n.parent, Sx n.tag, Sx n.id, strs n.classes, .imm 2 (n.attrs.map encPr)]
def nds (l : List Nd) : AV := .imm 5 (l.map encNd)

/-! ### no blocks are named in them -/
theorem noIds_map {α : Type} (f : α → List AV) (hf : ∀ x, noIds (f x) = true) : ∀ l : List α, noIdss (l.map f) = true
  | [] => rfl
  | x :: r => by simp only [List.map_cons, noIdss, hf, noIds_map f hf r, Bool.and_self]
@[simp] theorem noId_strs (l : List ByteArray) : noId (strs l) = true := by
  unfold strs; simp only [noId]; exact noIds_map _ (fun _ => rfl) l
theorem noId_At (a : At) : noIds (encAt a) = true := rfl
mutual
theorem noId_Pt : ∀ (p : Pt), noIds (encPt p) = true
  | .mk k c => by rw [encPt]; simp only [noIds, noId, noId_Cp c, Bool.and_self]
theorem noId_Cp : ∀ (c : Cp), noIds (encCp c) = true
  | .mk t i c a p => by rw [encCp]; simp only [noIds, noId, noId_strs, noIds_map _ noId_At, noId_Pss p, Bool.and_self]
theorem noId_Ps : ∀ (p : Ps), noIds (encPs p) = true
  | .mk k a b l => by rw [encPs]; simp only [noIds, noId, noId_Sls l, Bool.and_self]
theorem noId_Pts : ∀ (l : List Pt), noIdss (encPts l) = true
  | [] => rfl
  | p :: r => by rw [encPts]; simp only [noIdss, noId_Pt p, noId_Pts r, Bool.and_self]
theorem noId_Pss : ∀ (l : List Ps), noIdss (encPss l) = true
  | [] => rfl
  | p :: r => by rw [encPss]; simp only [noIdss, noId_Ps p, noId_Pss r, Bool.and_self]
theorem noId_Sls : ∀ (l : List (List Pt)), noIdss (encSls l) = true
  | [] => rfl
  | s :: r => by rw [encSls]; simp only [noIdss, noIds, noId, noId_Pts s, noId_Sls r, Bool.and_self]
end
theorem noId_Sl (s : Sl) : noIds (encSl s) = true := by
  unfold encSl; rw [← encPts_map]; simp only [noIds, noId, noId_Pts, Bool.and_self]
@[simp] theorem noId_sls (l : List Sl) : noId (sls l) = true := by unfold sls; simp only [noId]; exact noIds_map _ noId_Sl l
theorem noId_ST (s : ST) : noIds (encST s) = true := rfl
theorem noId_RL (r : RL) : noIds (encRL r) = true := by unfold encRL; simp only [noIds, noId, noId_sls, noIds_map _ noId_ST, Bool.and_self]
@[simp] theorem noId_rls (l : List RL) : noId (rls l) = true := by unfold rls; simp only [noId]; exact noIds_map _ noId_RL l
theorem noId_Nd (n : Nd) : noIds (encNd n) = true := by unfold encNd; simp only [noIds, noId, noId_strs, noIds_map encPr (fun _ => rfl), Bool.and_self]
@[simp] theorem noId_nds (l : List Nd) : noId (nds l) = true := by unfold nds; simp only [noId]; exact noIds_map _ noId_Nd l
end Go.Proofs.Ytikcninaepoojaa.Ev
namespace Go.Proofs.Ytikcninaepoojaa.Ev
@[simp] theorem one_strs (l : List ByteArray) : AV.one (strs l) = true := rfl
@[simp] theorem one_Cp (c : Cp) : (encCp c).all AV.one = true := by rw [encCp_eq]; rfl
@[simp] theorem one_Pt (p : Pt) : (encPt p).all AV.one = true := by rw [encPt_eq, List.all_cons, one_Cp]; rfl
@[simp] theorem one_Ps (p : Ps) : (encPs p).all AV.one = true := by rw [encPs_eq]; rfl
@[simp] theorem one_Sl (p : Sl) : (encSl p).all AV.one = true := rfl
@[simp] theorem one_At (p : At) : (encAt p).all AV.one = true := rfl
@[simp] theorem one_RL (p : RL) : (encRL p).all AV.one = true := rfl
@[simp] theorem one_Nd (p : Nd) : (encNd p).all AV.one = true := rfl
@[simp] theorem one_ST (p : ST) : (encST p).all AV.one = true := rfl
@[simp] theorem len_encRL (p : RL) : (encRL p).length = 2 := rfl
@[simp] theorem len_encNd (p : Nd) : (encNd p).length = 5 := rfl
@[simp] theorem len_encST (p : ST) : (encST p).length = 4 := rfl
theorem drop_get {α : Type} {l : List α} {k : Nat} {x : α} (h : l[k]? = some x) : l.drop k = x :: l.drop (k + 1) := by
  obtain ⟨hlt, rfl⟩ := List.getElem?_eq_some_iff.1 h
  exact List.drop_eq_getElem_cons hlt
theorem get_lt {α : Type} {l : List α} {k : Nat} (h : k < l.length) : ∃ x, l[k]? = some x := ⟨l[k], List.getElem?_eq_getElem h⟩
end Go.Proofs.Ytikcninaepoojaa.Ev
namespace Go.Proofs.Ytikcninaepoojaa.Ev
/-! ### how long lists and texts may be -/
def i64 (n : Int) : Prop := -9223372036854775808 ≤ n ∧ n ≤ 9223372036854775807
def strsWf (N : Nat) (l : List ByteArray) : Prop := l.length ≤ N ∧ ∀ s ∈ l, s.data.size ≤ N
mutual
def Pt.wf (N : Nat) : Pt → Prop
  | .mk k c => i64 k ∧ Cp.wf N c
def Cp.wf (N : Nat) : Cp → Prop
  | .mk t i c a p => t.data.size ≤ N ∧ strsWf N i ∧ strsWf N c ∧ (a.length ≤ N ∧ ∀ x ∈ a, x.name.data.size ≤ N ∧ i64 x.op ∧ x.text.data.size ≤ N) ∧ p.length ≤ N ∧ wfPss N p
def Ps.wf (N : Nat) : Ps → Prop
  | .mk k a b l => i64 k ∧ i64 a ∧ i64 b ∧ l.length ≤ N ∧ wfSls N l
def wfPts (N : Nat) : List Pt → Prop
  | [] => True
  | p :: r => Pt.wf N p ∧ wfPts N r
def wfPss (N : Nat) : List Ps → Prop
  | [] => True
  | p :: r => Ps.wf N p ∧ wfPss N r
def wfSls (N : Nat) : List (List Pt) → Prop
  | [] => True
  | s :: r => (s.length ≤ N ∧ wfPts N s) ∧ wfSls N r
end
theorem wfPts_mem {N : Nat} : ∀ {l : List Pt}, wfPts N l → ∀ p ∈ l, Pt.wf N p
  | p :: r, h, q, hq => by
    rw [wfPts] at h
    rcases List.mem_cons.1 hq with rfl | hq
    · exact h.1
    · exact wfPts_mem h.2 q hq
theorem wfPss_mem {N : Nat} : ∀ {l : List Ps}, wfPss N l → ∀ p ∈ l, Ps.wf N p
  | p :: r, h, q, hq => by
    rw [wfPss] at h
    rcases List.mem_cons.1 hq with rfl | hq
    · exact h.1
    · exact wfPss_mem h.2 q hq
def slWf (N : Nat) (s : Sl) : Prop := s.length ≤ N ∧ ∀ p ∈ s, Pt.wf N p
theorem wfSls_mem {N : Nat} : ∀ {l : List Sl}, wfSls N l → ∀ s ∈ l, slWf N s
  | s :: r, h, q, hq => by
    rw [wfSls] at h
    rcases List.mem_cons.1 hq with rfl | hq
    · exact ⟨h.1.1, wfPts_mem h.1.2⟩
    · exact wfSls_mem h.2 q hq
theorem wfPts_of {N : Nat} : ∀ {l : List Pt}, (∀ p ∈ l, Pt.wf N p) → wfPts N l
  | [], _ => by rw [wfPts]; trivial
  | p :: r, h => by rw [wfPts]; exact ⟨h p (by simp), wfPts_of fun q hq => h q (by simp [hq])⟩
theorem wfPss_of {N : Nat} : ∀ {l : List Ps}, (∀ p ∈ l, Ps.wf N p) → wfPss N l
  | [], _ => by rw [wfPss]; trivial
  | p :: r, h => by rw [wfPss]; exact ⟨h p (by simp), wfPss_of fun q hq => h q (by simp [hq])⟩
theorem wfSls_of {N : Nat} : ∀ {l : List Sl}, (∀ p ∈ l, slWf N p) → wfSls N l
  | [], _ => by rw [wfSls]; trivial
  | p :: r, h => by rw [wfSls]; exact ⟨⟨(h p (by simp)).1, wfPts_of (h p (by simp)).2⟩, wfSls_of fun q hq => h q (by simp [hq])⟩
def slsWf (N : Nat) (l : List Sl) : Prop := l.length ≤ N ∧ ∀ s ∈ l, slWf N s
structure CpWf (N : Nat) (c : Cp) : Prop where
  tag : c.tag.data.size ≤ N
  ids : strsWf N c.ids
  classes : strsWf N c.classes
  attrsL : c.attrs.length ≤ N
  attrs : ∀ x ∈ c.attrs, x.name.data.size ≤ N ∧ i64 x.op ∧ x.text.data.size ≤ N
  psL : c.pseudos.length ≤ N
  ps : ∀ p ∈ c.pseudos, Ps.wf N p
theorem Cp.wf_iff {N : Nat} {c : Cp} : Cp.wf N c ↔ CpWf N c := by
  cases c
  rw [Cp.wf]
  exact ⟨fun ⟨a, b, c, d, e, f⟩ => ⟨a, b, c, d.1, d.2, e, wfPss_mem f⟩, fun ⟨a, b, c, d, d', e, f⟩ => ⟨a, b, c, ⟨d, d'⟩, e, wfPss_of f⟩⟩
theorem Pt.wf_iff {N : Nat} {p : Pt} : Pt.wf N p ↔ i64 p.comb ∧ CpWf N p.c := by
  cases p; rw [Pt.wf, Cp.wf_iff]; rfl
theorem Ps.wf_iff {N : Nat} {p : Ps} : Ps.wf N p ↔ i64 p.kind ∧ i64 p.a ∧ i64 p.b ∧ slsWf N p.list := by
  cases p; rw [Ps.wf]
  exact ⟨fun ⟨a, b, c, d, e⟩ => ⟨a, b, c, d, wfSls_mem e⟩, fun ⟨a, b, c, d⟩ => ⟨a, b, c, d.1, wfSls_of d.2⟩⟩
abbrev Lmax : Nat := 9223372036854775807
theorem wr_succL {k n N : Nat} (h : k < n) (hn : n ≤ N) (hN : N ≤ Lmax := by decide) : wr .i64 ((k : Int) + 1) = ((k + 1 : Nat) : Int) := by
  have : Lmax = 9223372036854775807 := rfl
  rw [wr64 (by omega) (by omega)]; rfl
end Go.Proofs.Ytikcninaepoojaa.Ev
namespace Go.Proofs.Ytikcninaepoojaa.Ev
@[simp] theorem len_strs (l : List ByteArray) : lenSl (strs l) = some (.lit (.int .i64 l.length)) := by simp [strs]
@[simp] theorem len_sls (l : List Sl) : lenSl (sls l) = some (.lit (.int .i64 l.length)) := by simp [sls]
@[simp] theorem len_rls (l : List RL) : lenSl (rls l) = some (.lit (.int .i64 l.length)) := by simp [rls]
@[simp] theorem len_nds (l : List Nd) : lenSl (nds l) = some (.lit (.int .i64 l.length)) := by simp [nds]
end Go.Proofs.Ytikcninaepoojaa.Ev
namespace Go.Proofs.Ytikcninaepoojaa.Ev
@[simp] theorem ldL_sl (s : Sl) : ldL true 1 (encSl s) = some (.agg (encSl s)) := rfl
@[simp] theorem ldL_pt (s : Pt) : ldL true 6 (encPt s) = some (.agg (encPt s)) := ldL_all (len_encPt s)
@[simp] theorem ldL_cp (s : Cp) : ldL true 5 (encCp s) = some (.agg (encCp s)) := ldL_all (len_encCp s)
@[simp] theorem ldL_ps (s : Ps) : ldL true 4 (encPs s) = some (.agg (encPs s)) := ldL_all (len_encPs s)
@[simp] theorem ldL_at (s : At) : ldL true 3 (encAt s) = some (.agg (encAt s)) := rfl
@[simp] theorem ldL_nd (s : Nd) : ldL true 5 (encNd s) = some (.agg (encNd s)) := rfl
@[simp] theorem ldL_rl (s : RL) : ldL true 2 (encRL s) = some (.agg (encRL s)) := rfl
@[simp] theorem ldL_st (s : ST) : ldL true 4 (encST s) = some (.agg (encST s)) := rfl
@[simp] theorem ldL_pr (s : ByteArray × ByteArray) : ldL true 2 (encPr s) = some (.agg (encPr s)) := rfl
@[simp] theorem ov_sl (c : AV) (s : Sl) : overlay [c] 0 (encSl s) = encSl s := rfl
end Go.Proofs.Ytikcninaepoojaa.Ev
namespace Go.Proofs.Ytikcninaepoojaa.Ev
@[simp] theorem tail_encPt (p : Pt) : (encPt p).tail = encCp p.c := by rw [encPt_eq]; rfl
end Go.Proofs.Ytikcninaepoojaa.Ev
namespace Go.Proofs.Ytikcninaepoojaa.Ev
/-! ### fields -/
@[simp] theorem f_encPs0 (x : Ps) : ldL false 1 (encPs x) = some (I x.kind) := by rw [encPs_eq]; rfl
@[simp] theorem f_encPs1 (x : Ps) : ldL false 1 (encPs x).tail = some (I x.a) := by rw [encPs_eq]; rfl
theorem f_encPs1' (x : Ps) : ldL false 1 ((encPs x).drop 1) = some (I x.a) := by rw [encPs_eq]; rfl
@[simp] theorem f_encPs2 (x : Ps) : ldL false 1 ((encPs x).drop 2) = some (I x.b) := by rw [encPs_eq]; rfl
@[simp] theorem f_encPs3 (x : Ps) : ldL false 1 ((encPs x).drop 3) = some (.imm 1 (x.list.map encSl)) := by rw [encPs_eq]; rfl
@[simp] theorem f_encCp0 (x : Cp) : ldL false 1 (encCp x) = some (Sx x.tag) := by rw [encCp_eq]; rfl
@[simp] theorem f_encCp1 (x : Cp) : ldL false 1 (encCp x).tail = some (strs x.ids) := by rw [encCp_eq]; rfl
theorem f_encCp1' (x : Cp) : ldL false 1 ((encCp x).drop 1) = some (strs x.ids) := by rw [encCp_eq]; rfl
@[simp] theorem f_encCp2 (x : Cp) : ldL false 1 ((encCp x).drop 2) = some (strs x.classes) := by rw [encCp_eq]; rfl
@[simp] theorem f_encCp3 (x : Cp) : ldL false 1 ((encCp x).drop 3) = some (.imm 3 (x.attrs.map encAt)) := by rw [encCp_eq]; rfl
@[simp] theorem f_encCp4 (x : Cp) : ldL false 1 ((encCp x).drop 4) = some (.imm 4 (x.pseudos.map encPs)) := by rw [encCp_eq]; rfl
@[simp] theorem f_encPt0 (x : Pt) : ldL false 1 (encPt x) = some (I x.comb) := by rw [encPt_eq]; rfl
@[simp] theorem f_encSl0 (x : Sl) : ldL false 1 (encSl x) = some (.imm 6 (x.map encPt)) := rfl
@[simp] theorem f_encAt0 (x : At) : ldL false 1 (encAt x) = some (Sx x.name) := rfl
@[simp] theorem f_encAt1 (x : At) : ldL false 1 (encAt x).tail = some (I x.op) := rfl
theorem f_encAt1' (x : At) : ldL false 1 ((encAt x).drop 1) = some (I x.op) := rfl
@[simp] theorem f_encAt2 (x : At) : ldL false 1 ((encAt x).drop 2) = some (Sx x.text) := rfl
@[simp] theorem f_encNd0 (x : Nd) : ldL false 1 (encNd x) = some (I x.parent) := rfl
@[simp] theorem f_encNd1 (x : Nd) : ldL false 1 (encNd x).tail = some (Sx x.tag) := rfl
theorem f_encNd1' (x : Nd) : ldL false 1 ((encNd x).drop 1) = some (Sx x.tag) := rfl
@[simp] theorem f_encNd2 (x : Nd) : ldL false 1 ((encNd x).drop 2) = some (Sx x.id) := rfl
@[simp] theorem f_encNd3 (x : Nd) : ldL false 1 ((encNd x).drop 3) = some (strs x.classes) := rfl
@[simp] theorem f_encNd4 (x : Nd) : ldL false 1 ((encNd x).drop 4) = some (.imm 2 (x.attrs.map encPr)) := rfl
@[simp] theorem f_encRL0 (x : RL) : ldL false 1 (encRL x) = some (sls x.sels) := rfl
@[simp] theorem f_encRL1 (x : RL) : ldL false 1 (encRL x).tail = some (.imm 4 (x.sets.map encST)) := rfl
theorem f_encRL1' (x : RL) : ldL false 1 ((encRL x).drop 1) = some (.imm 4 (x.sets.map encST)) := rfl
@[simp] theorem f_encST0 (x : ST) : ldL false 1 (encST x) = some (I x.prop) := rfl
@[simp] theorem f_encST1 (x : ST) : ldL false 1 (encST x).tail = some (I x.kind) := rfl
theorem f_encST1' (x : ST) : ldL false 1 ((encST x).drop 1) = some (I x.kind) := rfl
@[simp] theorem f_encST2 (x : ST) : ldL false 1 ((encST x).drop 2) = some (I x.n) := rfl
@[simp] theorem f_encST3 (x : ST) : ldL false 1 ((encST x).drop 3) = some (Bo x.imp) := rfl
@[simp] theorem f_encPr0 (x : ByteArray × ByteArray) : ldL false 1 (encPr x) = some (Sx x.1) := rfl
@[simp] theorem f_encPr1 (x : ByteArray × ByteArray) : ldL false 1 (encPr x).tail = some (Sx x.2) := rfl
theorem f_encPr1' (x : ByteArray × ByteArray) : ldL false 1 ((encPr x).drop 1) = some (Sx x.2) := rfl
theorem ov_Cp {l : List AV} (x : Cp) (h : l.length = 5) : overlay l 0 (encCp x) = encCp x := overlay_all (by rw [len_encCp, h])
theorem ov_Ps {l : List AV} (x : Ps) (h : l.length = 4) : overlay l 0 (encPs x) = encPs x := overlay_all (by rw [len_encPs, h])
theorem ov_Pt {l : List AV} (x : Pt) (h : l.length = 6) : overlay l 0 (encPt x) = encPt x := overlay_all (by rw [len_encPt, h])
end Go.Proofs.Ytikcninaepoojaa.Ev
