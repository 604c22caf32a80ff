/- Calls that are handed what lies in the caller's blocks, and calls whose results lie in blocks of their own: over each heap. -/
import Derived.Test.YtikcninaepoojaaSim
namespace Go.Proofs.Ytikcninaepoojaa.Ev
open Go.RowKit (Below)
set_option linter.unusedVariables false
set_option linter.unusedSimpArgs false

/-- Over the heap H the first value, where nothing writes there any more, is the second one, which names no block. -/
inductive Fz (H : Hp) : AV → AV → Prop where
  | refl {x : AV} (h : noId x = true) : Fz H x x
  | nil {sz : Nat} : Fz H (.lit (.slice none 0 0)) (.imm sz [])
  | se {id off s sz : Nat} : Fz H (.se id off s) (.imm sz [])
  | emp {sz : Nat} : Fz H .emp (.imm sz [])
  | sl {id off sz len : Nat} {cap : Option Nat} {cs : List AV} {ex : Bool} {rows : List (List AV)} (val : Nat → Nat → AV) (hg : H.get id = some (.cells cs ex)) (hl : rows.length = len) (hsz : ∀ (i : Nat) (row : List AV), rows[i]? = some row → row.length = sz)
      (hc : ∀ (i : Nat) (row : List AV) (j : Nat) (y : AV), rows[i]? = some row → row[j]? = some y → cs[off + (i * sz + j)]? = some (val i j))
      (hf : ∀ (i : Nat) (row : List AV) (j : Nat) (y : AV), rows[i]? = some row → row[j]? = some y → Fz H (val i j) y) : Fz H (.sl id off sz len cap) (.imm sz rows)
  | ptr {id off : Nat} {cs ys : List AV} {ex : Bool} (val : Nat → AV) (hg : H.get id = some (.cells cs ex)) (hc : ∀ (j : Nat) (y : AV), ys[j]? = some y → cs[off + j]? = some (val j)) (hf : ∀ (j : Nat) (y : AV), ys[j]? = some y → Fz H (val j) y) : Fz H (.ptr id off) (.ip ys)
  | agg {xs ys : List AV} (hl : xs.length = ys.length) (hf : ∀ (j : Nat) (x y : AV), xs[j]? = some x → ys[j]? = some y → Fz H x y) : Fz H (.agg xs) (.agg ys)
  | tup {xs ys : List AV} (hl : xs.length = ys.length) (hf : ∀ (j : Nat) (x y : AV), xs[j]? = some x → ys[j]? = some y → Fz H x y) : Fz H (.tup xs) (.tup ys)

/-- Slices of one-cell things. -/
theorem Fz.one {H : Hp} {id off : Nat} {cap : Option Nat} {cs xs : List AV} {ex : Bool} (hg : H.get id = some (.cells cs ex)) (hc : ∀ (j : Nat) (x : AV), xs[j]? = some x → cs[off + j]? = some x) (hn : noIds xs = true) : Fz H (.sl id off 1 xs.length cap) (.imm 1 (xs.map fun x => [x])) := by
  refine .sl (fun i _ => xs.getD i .any) hg (by simp) (fun i row h => ?_) (fun i row j y h1 h2 => ?_) (fun i row j y h1 h2 => ?_)
  · simp only [List.getElem?_map, Option.map_eq_some_iff] at h
    obtain ⟨x, _, rfl⟩ := h; rfl
  · simp only [List.getElem?_map, Option.map_eq_some_iff] at h1
    obtain ⟨x, hx, rfl⟩ := h1
    have hj : j = 0 := by have := (List.getElem?_eq_some_iff.1 h2).1; simp at this; omega
    subst hj
    simp [hx]
    exact hc i x hx
  · simp only [List.getElem?_map, Option.map_eq_some_iff] at h1
    obtain ⟨x, hx, rfl⟩ := h1
    have hj : j = 0 := by have := (List.getElem?_eq_some_iff.1 h2).1; simp at this; omega
    subst hj
    simp at h2
    subst h2
    simp [hx]
    exact .refl (noIds_get hn i x hx)

/-- Slices of things of several cells that name no block. -/
theorem Fz.rows {H : Hp} {id off sz : Nat} {cap : Option Nat} {cs : List AV} {ex : Bool} {rows : List (List AV)} (hg : H.get id = some (.cells cs ex)) (hsz : ∀ row ∈ rows, row.length = sz) (hc : (cs.drop off).take (rows.length * sz) = rows.flatten) (hn : noIdss rows = true) :
    Fz H (.sl id off sz rows.length cap) (.imm sz rows) := by
  have key : ∀ (rows : List (List AV)), (∀ row ∈ rows, row.length = sz) → ∀ (i : Nat) (row : List AV) (j : Nat) (y : AV), rows[i]? = some row → row[j]? = some y → rows.flatten[i * sz + j]? = some y := by
    intro rows hsz
    induction rows with
    | nil => intro i row j y h; simp at h
    | cons r rs ih =>
      intro i row j y h1 h2
      have hr := hsz r (by simp)
      cases i with
      | zero =>
        simp at h1; subst h1
        have hj := (List.getElem?_eq_some_iff.1 h2).1
        simp only [Nat.zero_mul, Nat.zero_add, List.flatten_cons]
        rw [List.getElem?_append_left hj]; exact h2
      | succ i =>
        simp only [List.flatten_cons]
        rw [List.getElem?_append_right (by rw [hr, Nat.succ_mul]; omega), hr, show (i + 1) * sz + j - sz = i * sz + j by rw [Nat.succ_mul]; omega]
        exact ih (fun r hr => hsz r (by simp [hr])) i row j y (by simpa using h1) h2
  have hlt : ∀ (i : Nat) (row : List AV) (j : Nat) (y : AV), rows[i]? = some row → row[j]? = some y → i * sz + j < rows.length * sz := by
    intro i row j y h1 h2
    have h3 := (List.getElem?_eq_some_iff.1 h1).1
    have h4 := (List.getElem?_eq_some_iff.1 h2).1
    rw [hsz row (List.mem_of_getElem? h1)] at h4
    calc i * sz + j < i * sz + sz := by omega
      _ = (i + 1) * sz := by rw [Nat.succ_mul]
      _ ≤ rows.length * sz := Nat.mul_le_mul_right _ (by omega)
  refine .sl (fun i j => (rows.getD i []).getD j .any) hg rfl (fun i row h => hsz row (List.mem_of_getElem? h)) (fun i row j y h1 h2 => ?_) (fun i row j y h1 h2 => ?_)
  · have h5 := key rows hsz i row j y h1 h2
    rw [← hc, List.getElem?_take, if_pos (hlt i row j y h1 h2), List.getElem?_drop] at h5
    rw [h5]
    simp [h1, h2]
  · simp [h1, h2]
    exact .refl (noIds_get (noIdss_get hn i row h1) j y h2)

/-- The memory of the second environment holds all that the first one's blocks hold. -/
theorem Fz.rel {B : Nat} {w0 : Base} {E E1 : Env} {H : Hp} {w : World} (hst : St B w0 E H w) (hσ : E1.σ = E.σ) (hro : ∀ b o, E.ro b = some o → E1.ro b = some o) (hlive : ∀ id k b o n, H.get id = some k → E.ρ id = some (b, o, n) → ∀ x, w.heap[b]? = some x → E1.ro b = some x)
    {y x : AV} (hf : Fz H y x) : ∀ {v : Value}, Rel E y v → Rel E1 x v := by
  induction hf with
  | refl h => intro v hr; exact rel_noId hro hσ hr h
  | nil => intro v hr; cases hr; exact .immE
  | se => intro v hr; cases hr <;> exact .immE
  | emp => intro v hr; cases hr; exact .immE
  | sl val hg hl hsz hc hf ih =>
    rename_i id off sz len cap cs ex rows
    intro v hr
    cases hr with
    | sl he hcap hlen hn =>
      rename_i b o n c
      obtain ⟨b', o', n', e, _, _, ok⟩ := hst.live _ _ hg
      rw [he] at e
      cases e
      obtain ⟨cc, ty, lo, hi, h1, h2, h3, h4, h5, h6⟩ := ok
      have hro1 := hlive _ _ _ _ _ hg he _ h1
      have hv : ∀ (i : Nat) (row : List AV) (j : Nat) (z : AV), rows[i]? = some row → row[j]? = some z → ∃ v, cc[o + (off + (i * sz + j))]? = some v ∧ Rel E (val i j) v := fun i row j z hi hj => h6 _ _ (hc i row j z hi hj)
      refine .imm (fun i j => (cc[o + (off + (i * sz + j))]?).getD default) hl.symm hlen hsz (fun i row j z hi hj => ?_) (fun i row j z hi hj => ?_)
      · obtain ⟨v, hv1, _⟩ := hv i row j z hi hj
        unfold Env.cell
        rw [hro1]
        simp only
        rw [show o + off + (i * sz + j) = o + (off + (i * sz + j)) by omega, hv1]; rfl
      · obtain ⟨v, hv1, hv2⟩ := hv i row j z hi hj
        rw [hv1]
        exact ih i row j z hi hj hv2
  | ptr val hg hc hf ih =>
    rename_i id off cs ys ex
    intro v hr
    cases hr with
    | ptr he =>
      rename_i b o n
      obtain ⟨b', o', n', e, _, _, ok⟩ := hst.live _ _ hg
      rw [he] at e
      cases e
      obtain ⟨cc, ty, lo, hi, h1, h2, h3, h4, h5, h6⟩ := ok
      have hro1 := hlive _ _ _ _ _ hg he _ h1
      have hv : ∀ (j : Nat) (z : AV), ys[j]? = some z → ∃ v, cc[o + (off + j)]? = some v ∧ Rel E (val j) v := fun j z hj => h6 _ _ (hc j z hj)
      refine .ip (fun j => (cc[o + (off + j)]?).getD default) (fun j z hj => ?_) (fun j z hj => ?_)
      · obtain ⟨v, hv1, _⟩ := hv j z hj
        unfold Env.cell
        rw [hro1]
        simp only
        rw [show o + off + j = o + (off + j) by omega, hv1]; rfl
      · obtain ⟨v, hv1, hv2⟩ := hv j z hj
        rw [hv1]
        exact ih j z hj hv2
  | agg hl hf ih =>
    intro v hr
    cases hr with
    | agg hl' h' => exact .agg (by omega) (fun i y v hy hv => by
        have hlt := (List.getElem?_eq_some_iff.1 hy).1
        have hx := List.getElem?_eq_getElem (l := _) (i := i) (show i < _ by rw [← hl] at hlt; exact hlt)
        exact ih i _ y hx hy (h' i _ v hx hv))
  | tup hl hf ih =>
    intro v hr
    cases hr with
    | tup hl' h' => exact .tup (by omega) (fun i y v hy hv => by
        have hlt := (List.getElem?_eq_some_iff.1 hy).1
        have hx := List.getElem?_eq_getElem (l := _) (i := i) (show i < _ by rw [← hl] at hlt; exact hlt)
        exact ih i _ y hx hy (h' i _ v hx hv))

inductive FzL (H : Hp) : List AV → List AV → Prop where
  | nil : FzL H [] []
  | cons {x y : AV} {xs ys : List AV} (h : Fz H x y) (hs : FzL H xs ys) : FzL H (x :: xs) (y :: ys)

theorem FzL.get {H : Hp} {xs ys : List AV} (h : FzL H xs ys) : xs.length = ys.length ∧ ∀ (i : Nat) (y : AV), ys[i]? = some y → ∃ x, xs[i]? = some x ∧ Fz H x y := by
  induction h with
  | nil => exact ⟨rfl, fun i y h => by simp at h⟩
  | cons h hs ih =>
    refine ⟨by simp [ih.1], fun i y hy => ?_⟩
    cases i with
    | zero => simp at hy; subst hy; exact ⟨_, rfl, h⟩
    | succ i => simpa using ih.2 i y (by simpa using hy)

/-- A call whose result is plain, handed what lies in blocks. -/
theorem Good.frzA {P : Program} {σ : Sig} {f : Nat} {xs ys : List AV} {r : AV} {H H' : Hp} (h : Good P σ f xs Hp.empty r H') (hx : FzL H ys xs) (hr : plainV r = true) : Good P σ f ys H r H := by
  refine ⟨h.1, fun B w0 E w vs hσ hst hxs => ?_⟩
  have hE : E.σ = σ := by rw [hst.sig, hσ]
  let E1 : Env := ⟨fun _ => none, fun b => w.heap[b]?, E.σ⟩
  have st1 : St w.heap.size ⟨w, fun b => b < w.heap.size, fun _ => none, σ⟩ E1 Hp.empty w :=
    ⟨Below.refl _ _, Nat.le_refl _, fun _ _ h => h, fun _ _ => rfl, fun _ _ => rfl, fun id k h => by simp [Hp.empty, Hp.get, Tr.get] at h,
      fun i j k l h => by simp [Hp.empty, Hp.get, Tr.get] at h, fun b o h => .inr (Array.getElem?_eq_some_iff.1 h).1, fun b o h => by simp at h,
      fun i k h => by simp [Hp.empty, Hp.get, Tr.get] at h, hE⟩
  have hg := hx.get
  have rel1 : RelL E1 xs vs := ⟨by rw [hxs.len, hg.1], fun i x v a b => by
    obtain ⟨y, hy, hf⟩ := hg.2 i x a
    exact hf.rel (E1 := E1) hst rfl hst.ro (fun _ _ _ _ _ _ _ _ h => h) (hxs.at_ i y v hy b)⟩
  refine (h.2 _ _ _ _ _ rfl st1 rel1).mono fun e w' hh => ?_
  obtain ⟨E', v, rfl, hext, st2, hrel⟩ := hh
  have hb := st2.below
  have hsame : ∀ b, b < w.heap.size → w'.heap[b]? = w.heap[b]? := fun b hb' => hb.block b hb'
  refine ⟨E, v, rfl, .refl E, ⟨hst.below.trans (hb.mono hst.size), Nat.le_trans hst.size hb.size, fun b o ho => ?_, hst.dom, hst.hdom, fun id k hk => ?_, hst.disj, hst.rob, fun b o ho => ?_, hst.frl, hst.sig⟩, rel_plain (by rw [hext.σ]) hrel hr⟩
  · have := hst.ro b o ho
    rw [hsame b (Array.getElem?_eq_some_iff.1 this).1]; exact this
  · obtain ⟨b, o, n, e, hb', hr', ok⟩ := hst.live id k hk
    exact ⟨b, o, n, e, hb', hr', ok.heap (hsame b ok.lt)⟩
  · obtain ⟨h1, h2⟩ := hst.fr b o ho
    exact ⟨by rw [hsame b (Array.getElem?_eq_some_iff.1 h1).1]; exact h1, h2⟩

/-- A call whose result lies in blocks that it made: they are never written again. -/
theorem Good.frzR {P : Program} {σ : Sig} {f : Nat} {xs : List AV} {r r' : AV} {H' : Hp} (h : Good P σ f xs Hp.empty r H') (hx : noIds xs = true) (hr : Fz H' r r') (H : Hp) : Good P σ f xs H r' H := by
  refine ⟨h.1, fun B w0 E w vs hσ hst hxs => ?_⟩
  have hE : E.σ = σ := by rw [hst.sig, hσ]
  let E1 : Env := ⟨fun _ => none, E.ro, E.σ⟩
  have st1 : St w.heap.size ⟨w, fun b => (E.ro b).isSome = true, fun _ => none, σ⟩ E1 Hp.empty w :=
    ⟨Below.refl _ _, Nat.le_refl _, hst.ro, fun _ _ => rfl, fun _ _ => rfl, fun id k h => by simp [Hp.empty, Hp.get, Tr.get] at h,
      fun i j k l h => by simp [Hp.empty, Hp.get, Tr.get] at h, fun b o h => .inr (by show (E.ro b).isSome = true; have : E.ro b = some o := h; rw [this]; rfl), fun b o h => by simp at h,
      fun i k h => by simp [Hp.empty, Hp.get, Tr.get] at h, hE⟩
  have rel1 : RelL E1 xs vs := ⟨hxs.len, fun i x v a b => rel_noId (E := E) (E' := E1) (fun _ _ h => h) rfl (hxs.at_ i x v a b) (noIds_get hx i x a)⟩
  refine (h.2 _ _ _ _ _ rfl st1 rel1).mono fun e w' hh => ?_
  obtain ⟨E', v, rfl, hext, st2, hrel⟩ := hh
  have hb := st2.below
  have hsame : ∀ b, b < w.heap.size → w'.heap[b]? = w.heap[b]? := fun b hb' => hb.block b hb'
  let E2 : Env := ⟨E.ρ, fun b => if b < w.heap.size then E.ro b else w'.heap[b]?, E.σ⟩
  have hext2 : E.Ext E2 := ⟨fun _ _ h => h, fun b o ho => by
    have := (Array.getElem?_eq_some_iff.1 (hst.ro b o ho)).1
    show (if b < w.heap.size then E.ro b else w'.heap[b]?) = some o
    rw [if_pos this]; exact ho, rfl⟩
  have hro2 : ∀ b o, E'.ro b = some o → E2.ro b = some o := by
    intro b o ho
    show (if b < w.heap.size then E.ro b else w'.heap[b]?) = some o
    split
    · rename_i hlt
      rcases st2.rob b o ho with h | h
      · omega
      · have h : (E.ro b).isSome = true := h
        obtain ⟨o', ho'⟩ := Option.isSome_iff_exists.1 h
        have := hext.ro b o' ho'
        rw [ho] at this
        cases this
        exact ho'
    · exact st2.ro b o ho
  refine ⟨E2, v, rfl, hext2, ⟨hst.below.trans (hb.mono hst.size), Nat.le_trans hst.size hb.size, fun b o ho => ?_, hst.dom, hst.hdom, fun id k hk => ?_, hst.disj, fun b o ho => ?_, fun b o ho => ?_, hst.frl, hst.sig⟩, ?_⟩
  · have ho : (if b < w.heap.size then E.ro b else w'.heap[b]?) = some o := ho
    split at ho
    · have := hst.ro b o ho
      rw [hsame b (by assumption)]; exact this
    · exact ho
  · obtain ⟨b, o, n, e, hb', hr', ok⟩ := hst.live id k hk
    refine ⟨b, o, n, e, hb', ?_, (ok.heap (hsame b ok.lt)).ext hext2⟩
    show (if b < w.heap.size then E.ro b else w'.heap[b]?) = none
    rw [if_pos ok.lt]; exact hr'
  · have ho : (if b < w.heap.size then E.ro b else w'.heap[b]?) = some o := ho
    split at ho
    · exact hst.rob b o ho
    · left; have := hst.size; omega
  · obtain ⟨h1, h2⟩ := hst.fr b o ho
    have hlt := (Array.getElem?_eq_some_iff.1 h1).1
    refine ⟨by rw [hsame b hlt]; exact h1, ?_⟩
    show (if b < w.heap.size then E.ro b else w'.heap[b]?) = none
    rw [if_pos hlt]; exact h2
  · refine hr.rel st2 (by rw [hext.σ]) hro2 (fun id k b o n hk he x hx => ?_) hrel
    obtain ⟨b', o', n', e, hb', _, _⟩ := st2.live id k hk
    rw [he] at e
    cases e
    show (if b < w.heap.size then E.ro b else w'.heap[b]?) = some x
    rw [if_neg (by omega)]; exact hx
end Go.Proofs.Ytikcninaepoojaa.Ev
namespace Go.Proofs.Ytikcninaepoojaa.Ev
/-- A slice of one thing. -/
theorem Fz.sl1 {H : Hp} {id sz : Nat} {cap : Option Nat} {cs row : List AV} {ex : Bool} (hg : H.get id = some (.cells cs ex)) (h : FzL H cs row) (hl : row.length = sz) : Fz H (.sl id 0 sz 1 cap) (.imm sz [row]) := by
  have hget := h.get
  have one : ∀ (i : Nat) (r : List AV), [row][i]? = some r → i = 0 ∧ r = row := by
    intro i r hi
    cases i with
    | zero => simp at hi; exact ⟨rfl, hi.symm⟩
    | succ i => simp at hi
  refine .sl (fun _ j => cs.getD j .any) hg rfl (fun i r hi => ?_) (fun i r j y hi hj => ?_) (fun i r j y hi hj => ?_)
  · obtain ⟨_, rfl⟩ := one i r hi; exact hl
  · obtain ⟨rfl, rfl⟩ := one i r hi
    obtain ⟨x, hx, _⟩ := hget.2 j y hj
    simp [hx]
  · obtain ⟨rfl, rfl⟩ := one i r hi
    obtain ⟨x, hx, hf⟩ := hget.2 j y hj
    simp [hx]
    exact hf
/-- A list of things each as its one cell. -/
theorem Fz.cells1 {H : Hp} {id n : Nat} {cap : Option Nat} {cs : List AV} {ex : Bool} (hg : H.get id = some (.cells cs ex)) (hn : noIds cs = true) (hl : cs.length = n) : Fz H (.sl id 0 1 n cap) (.imm 1 (cs.map fun x => [x])) := by
  subst hl
  exact .one hg (fun j x h => by simpa using h) hn
theorem FzL.refl {H : Hp} : ∀ {xs : List AV}, noIds xs = true → FzL H xs xs
  | [], _ => .nil
  | x :: r, h => by
    simp only [noIds, Bool.and_eq_true] at h
    exact .cons (.refl h.1) (FzL.refl h.2)
theorem Fz.aggL {H : Hp} {xs ys : List AV} (h : FzL H xs ys) : Fz H (.agg xs) (.agg ys) := by
  have hget := h.get
  refine .agg hget.1 fun j x y hx hy => ?_
  obtain ⟨x', hx', hf⟩ := hget.2 j y hy
  rw [hx] at hx'
  cases hx'
  exact hf
end Go.Proofs.Ytikcninaepoojaa.Ev
