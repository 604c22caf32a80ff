/- A law's call: handed what it is handed, it answers true. -/
import Derived.Test.YtikcninaepoojaaRd
namespace Go.Proofs.Ytikcninaepoojaa.Ev
open Go.RowKit Go.ChangeShapes Go.WideShapes Go.ChangeAt
set_option linter.unusedVariables false
set_option linter.unusedSimpArgs false

/-- The call answers true. -/
def Holds (P : Program) (σ : Sig) (f : Nat) (xs : List AV) : Prop :=
  ∃ r H', Good P σ f xs Hp.empty r H' ∧ ∀ E v, E.σ = σ → Rel E r v → v = .bool true

def resT (kn : List (BExp × Bool)) : Option (AV × Hp) → Bool
  | some (.lit (.bool b), _) => b
  | some (.sb e, _) => match look kn e with
    | some b => b
    | none => false
  | _ => false

theorem holds_of {P : Program} (C : Ctx P) (hm : P.follows .mixedOrders = true) {funs : Nat → Option Func} {ov : Nat → List AV → Hp → Option (AV × Hp)} (hov : ∀ f xs H r H', ov f xs H = some (r, H') → Good P C.σ f xs H r H')
    (hfuns : ∀ f fn, funs f = some fn → P.funcs[f]? = some fn ∧ (fn.name == "runtime.NumGoroutine") = false) {L d f : Nat} {xs : List AV} (h : resT C.as (evF C funs ov L d f xs Hp.empty) = true) : Holds P C.σ f xs := by
  cases he : evF C funs ov L d f xs Hp.empty with
  | none => rw [he] at h; cases h
  | some p =>
    obtain ⟨r, H'⟩ := p
    refine ⟨r, H', evF_ok C hm hov hfuns L d f xs Hp.empty r H' he, fun E v hE hr => ?_⟩
    rw [he] at h
    unfold resT at h
    split at h
    · rename_i e; cases e; cases hr; rw [h]
    · rename_i e; cases e
      split at h
      · rename_i hl
        subst h
        have := look_ok C.has hl
        cases hr with
        | sb hb => rw [← hb, hE, this]
      · cases h
    · cases h

theorem known_nil {σ : Sig} : Known σ [] := fun p hp => by cases hp
theorem known_cons {σ : Sig} {b : BExp} {t : Bool} {l : List (BExp × Bool)} (h : b.eval σ = t) (hl : Known σ l) : Known σ ((b, t) :: l) := fun p hp => by
  rcases List.mem_cons.1 hp with rfl | hp
  · exact h
  · exact hl p hp

/-- The same, with letters. -/
inductive Lt (σ : Sig) : AV → AV → Prop where
  | refl (x : AV) : Lt σ x x
  | int {k : IntKind} {n : Int} {e : IExp} (h : e.eval σ = n) : Lt σ (.lit (.int k n)) (.sy k e)
  | bool {b : Bool} {e : BExp} (h : e.eval σ = b) : Lt σ (.lit (.bool b)) (.sb e)
  | str {s : ByteArray} {i : Nat} (h : σ.s i = s) : Lt σ (.lit (.string s)) (.ss i)
  | any (x : AV) : Lt σ x .any

inductive LtL (σ : Sig) : List AV → List AV → Prop where
  | nil : LtL σ [] []
  | cons {x y : AV} {xs ys : List AV} (h : Lt σ x y) (hs : LtL σ xs ys) : LtL σ (x :: xs) (y :: ys)

theorem Lt.rel {σ : Sig} {E : Env} {x y : AV} (h : Lt σ x y) (hE : E.σ = σ) {v : Value} (hr : Rel E x v) : Rel E y v := by
  cases h with
  | refl => exact hr
  | int h => cases hr; exact .sy (by rw [hE]; exact h)
  | bool h => cases hr; exact .sb (by rw [hE]; exact h)
  | str h => cases hr; exact .ss (by rw [hE]; exact h)
  | any => exact .any v

theorem LtL.get {σ : Sig} {xs ys : List AV} (h : LtL σ xs ys) : xs.length = ys.length ∧ ∀ (i : Nat) (y : AV), ys[i]? = some y → ∃ x, xs[i]? = some x ∧ Lt σ x y := by
  induction h with
  | nil => exact ⟨rfl, fun i y h => by simp at h⟩
  | cons h hs ih =>
    refine ⟨by simp [ih.1], fun i y hy => ?_⟩
    cases i with
    | zero => simp at hy; subst hy; exact ⟨_, rfl, h⟩
    | succ i => simpa using ih.2 i y (by simpa using hy)

theorem Lt.agg {σ : Sig} {E : Env} {xs ys : List AV} (h : LtL σ xs ys) (hE : E.σ = σ) {v : Value} (hr : Rel E (.agg xs) v) : Rel E (.agg ys) v := by
  obtain ⟨hl, hg⟩ := h.get
  cases hr with
  | agg hl' h' =>
    refine .agg (by omega) (fun i y v hy hv => ?_)
    obtain ⟨x, hx, hxy⟩ := hg i y hy
    exact hxy.rel hE (h' i x v hx hv)

theorem RelL.nil {E : Env} : RelL E [] #[] := ⟨rfl, fun i x v h => by simp at h⟩
theorem relL1 {E : Env} {x : AV} {v : Value} (h : Rel E x v) : RelL E [x] #[v] := ⟨rfl, fun i y u hy hu => by
  match i with
  | 0 => simp at hy hu; subst hy; subst hu; exact h
  | i + 1 => simp at hy⟩
theorem relL2 {E : Env} {x y : AV} {v u : Value} (h : Rel E x v) (h' : Rel E y u) : RelL E [x, y] #[v, u] := ⟨rfl, fun i z t hz ht => by
  match i with
  | 0 => simp at hz ht; subst hz; subst ht; exact h
  | 1 => simp at hz ht; subst hz; subst ht; exact h'
  | i + 2 => simp at hz⟩
theorem relL3 {E : Env} {x y z : AV} {v u t : Value} (h : Rel E x v) (h' : Rel E y u) (h'' : Rel E z t) : RelL E [x, y, z] #[v, u, t] := ⟨rfl, fun i a b ha hb => by
  match i with
  | 0 => simp at ha hb; subst ha; subst hb; exact h
  | 1 => simp at ha hb; subst ha; subst hb; exact h'
  | 2 => simp at ha hb; subst ha; subst hb; exact h''
  | i + 3 => simp at ha⟩
theorem relL4 {E : Env} {x y z q : AV} {v u t s : Value} (h : Rel E x v) (h' : Rel E y u) (h'' : Rel E z t) (h3 : Rel E q s) : RelL E [x, y, z, q] #[v, u, t, s] := ⟨rfl, fun i a b ha hb => by
  match i with
  | 0 => simp at ha hb; subst ha; subst hb; exact h
  | 1 => simp at ha hb; subst ha; subst hb; exact h'
  | 2 => simp at ha hb; subst ha; subst hb; exact h''
  | 3 => simp at ha hb; subst ha; subst hb; exact h3
  | i + 4 => simp at ha⟩

theorem law_of_holds {P : Program} {σ : Sig} {W : World} {f : Nat} {xs : List AV} {vs : Array Value} (hg : Holds P σ f xs) (hx : RelL (rdE σ W) xs vs) :
    Calls P f vs W fun e W' => e = .returned (.bool true) ∧ Below W.heap.size W W' := by
  obtain ⟨r, Hf, hg, hr⟩ := hg
  refine (hg.2 W.heap.size (rdB σ W) (rdE σ W) W vs rfl (St.start σ W) hx).mono fun e W' hh => ?_
  obtain ⟨E', v, rfl, h1, h2, h3⟩ := hh
  exact ⟨by rw [hr E' v h2.sig h3], h2.below⟩

/-! ### what is read -/
section
variable {ti : Nat → Option TI}
theorem sh_int {t : Nat} {i : TI} {k : IntKind} (hi : ti t = some i) (hd : i.d = .int k) {ts : List Nat} {zs : List AV} (h : Sh ti (t :: ts) zs) : ∃ n ys, zs = .lit (.int k n) :: ys ∧ (Lit.int k n).wf = true ∧ Sh ti ts ys := by
  cases h with
  | bool h' hd' hs => rw [hi] at h'; cases h'; rw [hd] at hd'; cases hd'
  | int h' hd' hw hs => rw [hi] at h'; cases h'; rw [hd] at hd'; cases hd'; exact ⟨_, _, rfl, hw, hs⟩
  | str h' hd' hw hs => rw [hi] at h'; cases h'; rw [hd] at hd'; cases hd'
  | ptrN h' hd' hs => rw [hi] at h'; cases h'; rw [hd] at hd'; cases hd'
  | ptr h' hd' hc hs => rw [hi] at h'; cases h'; rw [hd] at hd'; cases hd'
  | sl h' hd' he hc hl hm hs => rw [hi] at h'; cases h'; rw [hd] at hd'; cases hd'
  | struct h' hd' hs => rw [hi] at h'; cases h'; rw [hd] at hd'; cases hd'
  | array h' hd' hs => rw [hi] at h'; cases h'; rw [hd] at hd'; cases hd'

theorem sh_bool {t : Nat} {i : TI} (hi : ti t = some i) (hd : i.d = .bool) {ts : List Nat} {zs : List AV} (h : Sh ti (t :: ts) zs) : ∃ b ys, zs = .lit (.bool b) :: ys ∧ Sh ti ts ys := by
  cases h with
  | bool h' hd' hs => rw [hi] at h'; cases h'; rw [hd] at hd'; cases hd'; exact ⟨_, _, rfl, hs⟩
  | int h' hd' hw hs => rw [hi] at h'; cases h'; rw [hd] at hd'; cases hd'
  | str h' hd' hw hs => rw [hi] at h'; cases h'; rw [hd] at hd'; cases hd'
  | ptrN h' hd' hs => rw [hi] at h'; cases h'; rw [hd] at hd'; cases hd'
  | ptr h' hd' hc hs => rw [hi] at h'; cases h'; rw [hd] at hd'; cases hd'
  | sl h' hd' he hc hl hm hs => rw [hi] at h'; cases h'; rw [hd] at hd'; cases hd'
  | struct h' hd' hs => rw [hi] at h'; cases h'; rw [hd] at hd'; cases hd'
  | array h' hd' hs => rw [hi] at h'; cases h'; rw [hd] at hd'; cases hd'

theorem sh_str {t : Nat} {i : TI} (hi : ti t = some i) (hd : i.d = .string) {ts : List Nat} {zs : List AV} (h : Sh ti (t :: ts) zs) : ∃ s ys, zs = .lit (.string s) :: ys ∧ s.size ≤ maxLen ∧ Sh ti ts ys := by
  cases h with
  | bool h' hd' hs => rw [hi] at h'; cases h'; rw [hd] at hd'; cases hd'
  | int h' hd' hw hs => rw [hi] at h'; cases h'; rw [hd] at hd'; cases hd'
  | str h' hd' hw hs => rw [hi] at h'; cases h'; rw [hd] at hd'; cases hd'; exact ⟨_, _, rfl, hw, hs⟩
  | ptrN h' hd' hs => rw [hi] at h'; cases h'; rw [hd] at hd'; cases hd'
  | ptr h' hd' hc hs => rw [hi] at h'; cases h'; rw [hd] at hd'; cases hd'
  | sl h' hd' he hc hl hm hs => rw [hi] at h'; cases h'; rw [hd] at hd'; cases hd'
  | struct h' hd' hs => rw [hi] at h'; cases h'; rw [hd] at hd'; cases hd'
  | array h' hd' hs => rw [hi] at h'; cases h'; rw [hd] at hd'; cases hd'

theorem sh_struct {t : Nat} {i : TI} {fs : List (Nat × Nat)} (hi : ti t = some i) (hd : i.d = .struct fs) {ts : List Nat} {zs : List AV} (h : Sh ti (t :: ts) zs) : Sh ti (fs.map (·.2) ++ ts) zs := by
  cases h with
  | bool h' hd' hs => rw [hi] at h'; cases h'; rw [hd] at hd'; cases hd'
  | int h' hd' hw hs => rw [hi] at h'; cases h'; rw [hd] at hd'; cases hd'
  | str h' hd' hw hs => rw [hi] at h'; cases h'; rw [hd] at hd'; cases hd'
  | ptrN h' hd' hs => rw [hi] at h'; cases h'; rw [hd] at hd'; cases hd'
  | ptr h' hd' hc hs => rw [hi] at h'; cases h'; rw [hd] at hd'; cases hd'
  | sl h' hd' he hc hl hm hs => rw [hi] at h'; cases h'; rw [hd] at hd'; cases hd'
  | struct h' hd' hs => rw [hi] at h'; cases h'; rw [hd] at hd'; cases hd'; exact hs
  | array h' hd' hs => rw [hi] at h'; cases h'; rw [hd] at hd'; cases hd'

theorem sh_array {t : Nat} {i : TI} {n e : Nat} (hi : ti t = some i) (hd : i.d = .array n e) {ts : List Nat} {zs : List AV} (h : Sh ti (t :: ts) zs) : Sh ti (List.replicate n e ++ ts) zs := by
  cases h with
  | bool h' hd' hs => rw [hi] at h'; cases h'; rw [hd] at hd'; cases hd'
  | int h' hd' hw hs => rw [hi] at h'; cases h'; rw [hd] at hd'; cases hd'
  | str h' hd' hw hs => rw [hi] at h'; cases h'; rw [hd] at hd'; cases hd'
  | ptrN h' hd' hs => rw [hi] at h'; cases h'; rw [hd] at hd'; cases hd'
  | ptr h' hd' hc hs => rw [hi] at h'; cases h'; rw [hd] at hd'; cases hd'
  | sl h' hd' he hc hl hm hs => rw [hi] at h'; cases h'; rw [hd] at hd'; cases hd'
  | struct h' hd' hs => rw [hi] at h'; cases h'; rw [hd] at hd'; cases hd'
  | array h' hd' hs => rw [hi] at h'; cases h'; rw [hd] at hd'; cases hd'; exact hs

theorem sh_slice {t : Nat} {i : TI} {e : Nat} (hi : ti t = some i) (hd : i.d = .slice e) {ts : List Nat} {zs : List AV} (h : Sh ti (t :: ts) zs) : (∃ ys, zs = .lit (.slice none 0 0) :: ys ∧ Sh ti ts ys) ∨ ∃ j rows ys, ti e = some j ∧ zs = .imm j.size rows :: ys ∧ (∀ row ∈ rows, Sh ti [e] row) ∧ (∀ row ∈ rows, row.length = j.size) ∧ rows.length ≤ maxLen ∧ Sh ti ts ys := by
  cases h with
  | bool h' hd' hs => rw [hi] at h'; cases h'; rw [hd] at hd'; cases hd'
  | int h' hd' hw hs => rw [hi] at h'; cases h'; rw [hd] at hd'; cases hd'
  | str h' hd' hw hs => rw [hi] at h'; cases h'; rw [hd] at hd'; cases hd'
  | ptrN h' hd' hs => rw [hi] at h'; cases h'; rw [hd] at hd'; cases hd'
  | ptr h' hd' hc hs => rw [hi] at h'; cases h'; rw [hd] at hd'; cases hd'
  | sl h' hd' he hc hl hm hs => rw [hi] at h'; cases h'; rw [hd] at hd'; cases hd'; exact .inr ⟨_, _, _, he, rfl, hc, hl, hm, hs⟩
  | struct h' hd' hs => rw [hi] at h'; cases h'; rw [hd] at hd'; cases hd'
  | array h' hd' hs => rw [hi] at h'; cases h'; rw [hd] at hd'; cases hd'

theorem sh_nil {zs : List AV} (h : Sh ti [] zs) : zs = [] := by cases h; rfl

theorem shV_int {t : Nat} {i : TI} {k : IntKind} (hi : ti t = some i) (hd : i.d = .int k) {x : AV} (h : ShV ti t x) : ∃ n, x = .lit (.int k n) ∧ (Lit.int k n).wf = true := by
  unfold ShV at h
  rw [hi] at h
  simp only [hd, TD.agg] at h
  obtain ⟨n, ys, e, hw, hs⟩ := sh_int hi hd h
  cases e
  exact ⟨n, rfl, hw⟩
theorem shV_bool {t : Nat} {i : TI} (hi : ti t = some i) (hd : i.d = .bool) {x : AV} (h : ShV ti t x) : ∃ b, x = .lit (.bool b) := by
  unfold ShV at h
  rw [hi] at h
  simp only [hd, TD.agg] at h
  obtain ⟨n, ys, e, hs⟩ := sh_bool hi hd h
  cases e
  exact ⟨n, rfl⟩
theorem shV_str {t : Nat} {i : TI} (hi : ti t = some i) (hd : i.d = .string) {x : AV} (h : ShV ti t x) : ∃ s, x = .lit (.string s) ∧ s.size ≤ maxLen := by
  unfold ShV at h
  rw [hi] at h
  simp only [hd, TD.agg] at h
  obtain ⟨n, ys, e, hw, hs⟩ := sh_str hi hd h
  cases e
  exact ⟨n, rfl, hw⟩
theorem shV_agg {t : Nat} {i : TI} (hi : ti t = some i) (hd : i.d.agg = true) {x : AV} (h : ShV ti t x) : ∃ ys, x = .agg ys ∧ Sh ti [t] ys := by
  unfold ShV at h
  rw [hi] at h
  simp only [hd] at h
  exact h
end

/-! ### calls that need no block of the heap, and leave none -/
mutual
def noId : AV → Bool
  | .lit _ => true
  | .emp => true
  | .any => true
  | .sy _ _ => true
  | .sb _ => true
  | .ss _ => true
  | .agg xs => noIds xs
  | .tup xs => noIds xs
  | .fn _ xs => noIds xs
  | .imm _ xs => noIdss xs
  | .ip xs => noIds xs
  | _ => false
def noIds : List AV → Bool
  | [] => true
  | x :: xs => noId x && noIds xs
def noIdss : List (List AV) → Bool
  | [] => true
  | x :: xs => noIds x && noIdss xs
end

theorem noIds_get : ∀ {xs : List AV}, noIds xs = true → ∀ (i : Nat) (x : AV), xs[i]? = some x → noId x = true
  | [], _, i, x, h => by simp at h
  | y :: ys, hn, 0, x, h => by simp [noIds] at hn; simp at h; subst h; exact hn.1
  | y :: ys, hn, i + 1, x, h => by simp [noIds] at hn; exact noIds_get hn.2 i x (by simpa using h)

theorem noIdss_get : ∀ {xs : List (List AV)}, noIdss xs = true → ∀ (i : Nat) (x : List AV), xs[i]? = some x → noIds x = true
  | [], _, i, x, h => by simp at h
  | y :: ys, hn, 0, x, h => by simp [noIdss] at hn; simp at h; subst h; exact hn.1
  | y :: ys, hn, i + 1, x, h => by simp [noIdss] at hn; exact noIdss_get hn.2 i x (by simpa using h)

theorem rel_noId {E E' : Env} (hro : ∀ b o, E.ro b = some o → E'.ro b = some o) (hσ : E'.σ = E.σ) {x : AV} {v : Value} (h : Rel E x v) : noId x = true → Rel E' x v := by
  have hcell : ∀ {b o : Nat} {v : Value}, E.cell b o = some v → E'.cell b o = some v := by
    intro b o v k
    unfold Env.cell at *
    cases hb : E.ro b with
    | none => simp [hb] at k
    | some x => rw [hb] at k; rw [hro _ _ hb]; exact k
  induction h with
  | lit v => intro _; exact .lit v
  | ptr h => intro hn; simp [noId] at hn
  | sl h => intro hn; simp [noId] at hn
  | emp => intro _; exact .emp
  | seE => intro hn; simp [noId] at hn
  | seS => intro hn; simp [noId] at hn
  | immE => intro _; exact .immE
  | imm val hn hl hsz hr hrel ih =>
    intro hi
    simp only [noId] at hi
    exact .imm val hn hl hsz (fun i cs j x h1 h2 => hcell (hr i cs j x h1 h2)) (fun i cs j x h1 h2 => ih i cs j x h1 h2 (noIds_get (noIdss_get hi i cs h1) j x h2))
  | ip val hr hrel ih =>
    intro hi
    simp only [noId] at hi
    exact .ip val (fun j x h => hcell (hr j x h)) (fun j x h => ih j x h (noIds_get hi j x h))
  | agg hl h ih => intro hi; simp only [noId] at hi; exact .agg hl (fun i x v a b => ih i x v a b (noIds_get hi i x a))
  | tup hl h ih => intro hi; simp only [noId] at hi; exact .tup hl (fun i x v a b => ih i x v a b (noIds_get hi i x a))
  | fn hl h ih => intro hi; simp only [noId] at hi; exact .fn hl (fun i x v a b => ih i x v a b (noIds_get hi i x a))
  | mp h => intro hn; simp [noId] at hn
  | yl h => intro hn; simp [noId] at hn
  | any v => intro _; exact .any v
  | sy h => intro _; exact .sy (by rw [hσ]; exact h)
  | sb h => intro _; exact .sb (by rw [hσ]; exact h)
  | ss h => intro _; exact .ss (by rw [hσ]; exact h)

mutual
def plainV : AV → Bool
  | .lit _ => true
  | .emp => true
  | .any => true
  | .sy _ _ => true
  | .sb _ => true
  | .ss _ => true
  | .agg xs => plainVs xs
  | .tup xs => plainVs xs
  | _ => false
def plainVs : List AV → Bool
  | [] => true
  | x :: xs => plainV x && plainVs xs
end

theorem plainVs_get : ∀ {xs : List AV}, plainVs xs = true → ∀ (i : Nat) (x : AV), xs[i]? = some x → plainV x = true
  | [], _, i, x, h => by simp at h
  | y :: ys, hn, 0, x, h => by simp [plainVs] at hn; simp at h; subst h; exact hn.1
  | y :: ys, hn, i + 1, x, h => by simp [plainVs] at hn; exact plainVs_get hn.2 i x (by simpa using h)

theorem rel_plain {E E' : Env} (hσ : E'.σ = E.σ) {x : AV} {v : Value} (h : Rel E x v) : plainV x = true → Rel E' x v := by
  induction h with
  | lit v => intro _; exact .lit v
  | emp => intro _; exact .emp
  | agg hl h ih => intro hi; simp only [plainV] at hi; exact .agg hl (fun i x v a b => ih i x v a b (plainVs_get hi i x a))
  | tup hl h ih => intro hi; simp only [plainV] at hi; exact .tup hl (fun i x v a b => ih i x v a b (plainVs_get hi i x a))
  | any v => intro _; exact .any v
  | sy h => intro _; exact .sy (by rw [hσ]; exact h)
  | sb h => intro _; exact .sb (by rw [hσ]; exact h)
  | ss h => intro _; exact .ss (by rw [hσ]; exact h)
  | _ => intro hn; simp [plainV] at hn

/-- What holds over no heap holds over each. -/
theorem Good.over {P : Program} {σ : Sig} {f : Nat} {xs : List AV} {r : AV} {H' : Hp} (h : Good P σ f xs Hp.empty r H') (hx : noIds xs = true) (hr : plainV r = true) (H : Hp) : Good P σ f xs H r H := by
  refine ⟨h.1, fun B w0 E w vs hσ hst hxs => ?_⟩
  have hE : E.σ = σ := by rw [hst.sig, hσ]
  let E1 : Env := ⟨fun _ => none, E.ro, E.σ⟩
  have st1 : St w.heap.size ⟨w, fun b => b < w.heap.size, fun _ => none, σ⟩ E1 Hp.empty w :=
    ⟨Below.refl _ _, Nat.le_refl _, hst.ro, fun _ _ => rfl, fun _ _ => rfl, fun id k h => by simp [Hp.empty, Hp.get, Tr.get] at h,
      fun i j k l h => by simp [Hp.empty, Hp.get, Tr.get] at h, fun b o h => .inr (Array.getElem?_eq_some_iff.1 (hst.ro b o h)).1, fun b o h => by simp at h,
      fun i k h => by simp [Hp.empty, Hp.get, Tr.get] at h, hE⟩
  have rel1 : RelL E1 xs vs := ⟨hxs.len, fun i x v a b => rel_noId (E := E) (E' := E1) (fun _ _ h => h) rfl (hxs.at_ i x v a b) (noIds_get hx i x a)⟩
  refine (h.2 _ _ _ _ _ rfl st1 rel1).mono fun e w' hh => ?_
  obtain ⟨E', v, rfl, hext, st2, hrel⟩ := hh
  have hb := st2.below
  have hsame : ∀ b, b < w.heap.size → w'.heap[b]? = w.heap[b]? := fun b hb' => hb.block b hb'
  refine ⟨E, v, rfl, .refl E, ⟨hst.below.trans (hb.mono hst.size), Nat.le_trans hst.size hb.size, fun b o ho => ?_, hst.dom, hst.hdom, fun id k hk => ?_, hst.disj, hst.rob, fun b o ho => ?_, hst.frl, hst.sig⟩, rel_plain (by rw [hext.σ]) hrel hr⟩
  · have := hst.ro b o ho
    rw [hsame b (Array.getElem?_eq_some_iff.1 this).1]; exact this
  · obtain ⟨b, o, n, e, hb', hr', ok⟩ := hst.live id k hk
    exact ⟨b, o, n, e, hb', hr', ok.heap (hsame b ok.lt)⟩
  · obtain ⟨h1, h2⟩ := hst.fr b o ho
    exact ⟨by rw [hsame b (Array.getElem?_eq_some_iff.1 h1).1]; exact h1, h2⟩
end Go.Proofs.Ytikcninaepoojaa.Ev
