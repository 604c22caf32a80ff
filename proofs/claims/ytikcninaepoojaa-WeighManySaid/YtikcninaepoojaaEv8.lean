/- All operations but calls of functions. -/
import Derived.Test.YtikcninaepoojaaEv7
namespace Go.Proofs.Ytikcninaepoojaa.Ev
open Go.RowKit (Below)
set_option linter.unusedVariables false
set_option linter.unusedSimpArgs false
set_option linter.unusedSectionVars false

/-- What is known of a program: its types, and how structs and arrays are compared. -/
structure Ctx (P : Program) where
  ti : Nat → Option TI
  hti : ∀ t i, ti t = some i → tiOf P t = some i
  keys : Nat → Option (List KK)
  hkeys : ∀ t ks, keys t = some ks → KeyOk P t ks
  /-- what letters stand for, and what is known of that -/
  σ : Sig
  as : List (BExp × Bool)
  has : Known σ as

def ofB : BExp → AV
  | .lit b => .lit (.bool b)
  | .not (.lit b) => .lit (.bool (!b))
  | e => .sb e

theorem ofB_rel {E : Env} (e : BExp) : Rel E (ofB e) (.bool (e.eval E.σ)) := by
  unfold ofB
  split
  · exact .lit _
  · exact .lit _
  · exact .sb rfl

def Step (P : Program) (B : Nat) (w0 : Base) (E : Env) (s : Sem Next) (w : World) (x : AV) (H' : Hp) : Prop :=
  ∃ E' nx w', s.run P w = .ok nx w' ∧ E.Ext E' ∧ St B w0 E' H' w' ∧ ((∃ v, nx = .value v ∧ Rel E' x v) ∨ (nx = .skip ∧ x = .lit undef))

def lit? : AV → Option Value
  | .lit v => some v
  | _ => none

def binA (ti : Nat → Option TI) (keys : Nat → Option (List KK)) (op : BinOp) (t : Nat) (x y : AV) : Option AV :=
  match (match lit? x, lit? y with | some a, some b => sbin op a b | _, _ => none) with
  | some v => some (.lit v)
  | none => match symA op x y with
    | some r => some r
    | none => match op with
      | .eql => (eqA ti keys t x y).map ofB
      | .neq => (eqA ti keys t x y).map fun b => ofB (.not b)
      | _ => none

def optInt (T : List AV) : Option Operand → Option (Option Int)
  | none => some none
  | some o => match intA (evO T o) with
    | some n => some (some n)
    | none => none

def minStep (acc : Option AV) (x : AV) : Option AV :=
  match acc with
  | some y => match y, x with
    | .lit (.int k a), .lit (.int _ b) => some (.lit (.int k (if b < a then b else a)))
    | y, x => match toI y, toI x with
      | some (k, a), some (_, b) => some (.sy k (.mn a b))
      | _, _ => none
  | none => none

def maxStep (acc : Option AV) (x : AV) : Option AV :=
  match acc with
  | some y => match y, x with
    | .lit (.int k a), .lit (.int _ b) => some (.lit (.int k (if b > a then b else a)))
    | y, x => match toI y, toI x with
      | some (k, a), some (_, b) => some (.sy k (.mx a b))
      | _, _ => none
  | none => none

def minA : List AV → Option AV
  | x :: r => match toI x with
    | some _ => r.foldl minStep (some x)
    | none => none
  | _ => none

def maxA : List AV → Option AV
  | x :: r => match toI x with
    | some _ => r.foldl maxStep (some x)
    | none => none
  | _ => none

def builtinA (ti : Nat → Option TI) (H : Hp) (b : Builtin) (ts : Array TypeId) (xs : List AV) : Option (AV × Hp) :=
  match b with
  | .len => match ts[0]?, xs with
    | some t, [x] => (lenA ti t x).map fun y => (y, H)
    | _, _ => none
  | .append => match ts, xs with
    | ⟨[s, t]⟩, [x, y] => appendA ti H s t x y
    | _, _ => none
  | .min => (minA xs).map fun y => (y, H)
  | .max => (maxA xs).map fun y => (y, H)
  | _ => none

def pickA (t : Bool) (x y : AV) : AV :=
  match x, y with
  | .lit (.bool p), .lit (.bool q) => .lit (.bool (bif t then p else q))
  | x, y => bif t then x else y

theorem pickA_eq (t : Bool) (x y : AV) : pickA t x y = bif t then x else y := by
  unfold pickA
  split
  · cases t <;> rfl
  · rfl

def evOp (ti : Nat → Option TI) (keys : Nat → Option (List KK)) (as : List (BExp × Bool)) (T : List AV) (H : Hp) (o : Oper) : Option (AV × Hp) :=
  match o.op with
  | .move x => some (evO T x, H)
  | .assign x => some (evO T x, H)
  | .pick c a b => match evO T c with
    | .lit (.bool t) => some (pickA t (evO T a) (evO T b), H)
    | .sb e => match look as e with
      | some t => some (pickA t (evO T a) (evO T b), H)
      | none => none
    | _ => none
  | .alloc t => allocA ti H t
  | .box t x => bif (evO T x).isAny then none else some (.ptr H.n 0, H.new (.cells (evO T x).cells true))
  | .build t ps => (buildA ti t (ps.toList.map fun p => (p.1, evO T p.2))).map fun x => (x, H)
  | .buildSlice t n ps => buildSliceA ti H t n (ps.toList.map fun p => (p.1, evO T p.2))
  | .load t a => (loadA ti H t (evO T a)).map fun x => (x, H)
  | .store t a x => match ti t with
    | some i => bif Nat.beq (evO T x).cells.length i.size && !(evO T x).isAny then (storeCellsA H (evO T a) (evO T x).cells).map fun H' => (.lit undef, H') else none
    | none => none
  | .nilCheck x => match evO T x with
    | .ptr id o => some (.ptr id o, H)
    | .ip cs => some (.ip cs, H)
    | .fn f cs => some (.fn f cs, H)
    | _ => none
  | .binOp op t x y _ => (binA ti keys op t (evO T x) (evO T y)).map fun v => (v, H)
  | .unOp op _ x => match evO T x with
    | .lit v => (sun op v).map fun u => (.lit u, H)
    | .sb e => match op with
      | .not => some (.sb (.not e), H)
      | _ => none
    | .sy k e => match op with
      | .neg => some (.sy k (.bin .sub k (.num 0) e), H)
      | _ => none
    | _ => none
  | .convert s d x => convA ti H s d (evO T x)
  | .makeFunc fn first caps => match fn, first with
    | .func f, ⟨[]⟩ => some (.fn f (caps.toList.map (evO T)), H)
    | _, _ => none
  | .makeSlice t l c => makeSliceA ti H t (evO T l) (evO T c)
  | .slice t x lo hi mx => match optInt T lo, optInt T hi, optInt T mx with
    | some lo, some hi, some mx => (sliceA ti H t (evO T x) lo hi mx).map fun y => (y, H)
    | _, _, _ => none
  | .fieldAddr t x f => (fieldAddrA ti t (evO T x) f).map fun y => (y, H)
  | .field t x f => (fieldA ti t (evO T x) f).map fun y => (y, H)
  | .indexAddr t x i => (indexAddrA ti t (evO T x) (evO T i)).map fun y => (y, H)
  | .index t x i => (indexA ti t (evO T x) (evO T i)).map fun y => (y, H)
  | .extract x i => match evO T x with
    | .tup vs => (vs[i]?).map fun y => (y, H)
    | _ => none
  | .call { callee := .builtin b, args := args, argTypes := ts } => builtinA ti H b ts (args.toList.map (evO T))
  | _ => none

section
variable {P : Program} (C : Ctx P)
variable {B : Nat} {w0 : Base} {E : Env} {H : Hp} {w : World}

theorem StepV.step {s : Sem Value} {x : AV} {H' : Hp} (h : StepV P B w0 E s w x H') : Step P B w0 E (do pure (.value (← s))) w x H' := by
  obtain ⟨E', v, w', h1, h2, h3, h4⟩ := h
  exact ⟨E', .value v, w', by simp [h1], h2, h3, .inl ⟨v, rfl, h4⟩⟩

theorem Step.val (h : St B w0 E H w) {s : Sem Value} {x : AV} {v : Value} (hr : s.run P w = .ok v w) (hx : Rel E x v) : Step P B w0 E (do pure (.value (← s))) w x H :=
  StepV.step (.same h hr hx)

theorem rel_lit {x : AV} {v u : Value} (hx : Rel E x v) (h : lit? x = some u) : v = u := by
  cases hx <;> simp [lit?] at h
  exact h

theorem binA_ok {op : BinOp} {t : Nat} {x y r : AV} {vx vy : Value} (hx : Rel E x vx) (hy : Rel E y vy) (h : binA C.ti C.keys op t x y = some r) (ox oy : Operand) (w : World) :
    ∃ u, (do eqGuard op t ox oy vx vy; binOp op t vx vy : Sem Value).run P w = .ok u w ∧ Rel E r u := by
  unfold binA at h
  split at h
  · rename_i v hv
    split at hv
    · rename_i a b ha hb
      rw [← rel_lit hx ha, ← rel_lit hy hb] at hv
      cases h
      exact ⟨v, sbin_ok hv t ox oy w, .lit _⟩
    · cases hv
  · split at h
    · rename_i r' hr
      cases h
      exact symA_ok hx hy hr t ox oy w
    · split at h
      · simp only [Option.map_eq_some_iff] at h
        obtain ⟨b, hb, rfl⟩ := h
        exact ⟨_, (eqA_ok C.hti C.hkeys hx hy hb ox oy w).1, ofB_rel b⟩
      · simp only [Option.map_eq_some_iff] at h
        obtain ⟨b, hb, rfl⟩ := h
        exact ⟨_, (eqA_ok C.hti C.hkeys hx hy hb ox oy w).2, ofB_rel (.not b)⟩
      · cases h

theorem optInt_ok {T : List AV} {a : Act} (hT : RelL E T a.tmps) {o : Option Operand} {n : Option Int} (h : optInt T o = some n) : Bd n (o.map a.eval) := by
  cases o with
  | none => simp [optInt] at h; subst h; exact .none
  | some o =>
    simp only [optInt] at h
    split at h
    · rename_i m hm
      cases h
      obtain ⟨k, hk⟩ := intA_ok (rel_evO hT o) hm
      simp only [Option.map_some, hk]
      exact .some k m
    · cases h

theorem pairs_of {T : List AV} {a : Act} (hT : RelL E T a.tmps) : ∀ (ps : List (Nat × Operand)), Pairs E (ps.map fun p => (p.1, evO T p.2)) (ps.map fun p => (p.1, a.eval p.2))
  | [] => .nil
  | p :: r => .cons ⟨rfl, rel_evO hT _⟩ (pairs_of hT r)

theorem minStep_ok {E : Env} {y x z : AV} {k : IntKind} {a : Int} {v : Value} (hy : Rel E y (.int k a)) (hx : Rel E x v) (h : minStep (some y) x = some z) : ∃ k' b, v = .int k' b ∧ Rel E z (.int k (if b < a then b else a)) := by
  unfold minStep at h
  simp only at h
  split at h
  · rename_i k1 a1 k2 b1
    cases hy; cases hx; cases h
    exact ⟨_, _, rfl, .lit _⟩
  · split at h
    · rename_i k1 a1 k2 b1 h1 h2
      cases h
      have e1 := toI_ok hy h1
      have e2 := toI_ok hx h2
      cases e1; subst e2
      exact ⟨_, _, rfl, .sy rfl⟩
    · cases h
theorem min_none : ∀ r : List AV, r.foldl minStep none = none
  | [] => rfl
  | _ :: r => min_none r

theorem minA_ok : ∀ {xs : List AV} {vs : Array Value} {y : AV}, RelL E xs vs → minA xs = some y → ∀ w, ∃ u, (match vs.toList with | [] => stuck "min: at least one argument expected" | x :: rest => rest.foldlM Builtin.min2 x : Sem Value).run P w = .ok u w ∧ Rel E y u := by
  intro xs vs y hr h w
  have key : ∀ (r : List AV) (us : List Value) (acc : AV) (k : IntKind) (a : Int), us.length = r.length → (∀ (i : Nat) (x : AV) (v : Value), r[i]? = some x → us[i]? = some v → Rel E x v) → Rel E acc (.int k a) →
      r.foldl minStep (some acc) = some y → ∃ u, (us.foldlM Builtin.min2 (.int k a) : Sem Value).run P w = .ok u w ∧ Rel E y u := by
    intro r
    induction r with
    | nil =>
      intro us acc k a hl _ hacc h
      cases us with
      | nil => simp at h; subst h; exact ⟨_, rfl, hacc⟩
      | cons => simp at hl
    | cons x r ih =>
      intro us acc k a hl hrel hacc h
      cases us with
      | nil => simp at hl
      | cons u us =>
        have hxu := hrel 0 x u rfl rfl
        simp only [List.foldl_cons] at h
        cases hs : minStep (some acc) x with
        | none => rw [hs, min_none] at h; cases h
        | some z =>
          rw [hs] at h
          obtain ⟨k', b, rfl, hz⟩ := minStep_ok hacc hxu hs
          obtain ⟨q, h1, h2⟩ := ih us _ _ _ (by simpa using hl) (fun i x v a b => hrel (i + 1) x v (by simpa using a) (by simpa using b)) hz h
          refine ⟨q, ?_, h2⟩
          simp only [List.foldlM_cons, Sem.run_bind, Builtin.min2, Sem.run_pure, Result.andThen]
          exact h1
  match xs, h with
  | x :: r, h =>
    simp only [minA] at h
    split at h
    case h_2 => cases h
    rename_i ke hke
    obtain ⟨k, e⟩ := ke
    cases hv : vs.toList with
    | nil =>
      have := hr.len
      have h0 : vs.size = 0 := by rw [← Array.length_toList, hv]; rfl
      rw [h0] at this; simp at this
    | cons u us =>
      have hg : ∀ i, (u :: us)[i]? = vs[i]? := fun i => by rw [← hv, Array.getElem?_toList]
      have hu := hr.at_ 0 _ u rfl (by rw [← hg]; rfl)
      have e1 := toI_ok hu hke
      subst e1
      refine key r us x k _ ?_ ?_ hu h
      · have := hr.len
        rw [← Array.length_toList, hv] at this
        simpa using this
      · intro i x v h1 h2
        exact hr.at_ (i + 1) x v (by simpa using h1) (by rw [← hg]; simpa using h2)

theorem maxStep_ok {E : Env} {y x z : AV} {k : IntKind} {a : Int} {v : Value} (hy : Rel E y (.int k a)) (hx : Rel E x v) (h : maxStep (some y) x = some z) : ∃ k' b, v = .int k' b ∧ Rel E z (.int k (if b > a then b else a)) := by
  unfold maxStep at h
  simp only at h
  split at h
  · rename_i k1 a1 k2 b1
    cases hy; cases hx; cases h
    exact ⟨_, _, rfl, .lit _⟩
  · split at h
    · rename_i k1 a1 k2 b1 h1 h2
      cases h
      have e1 := toI_ok hy h1
      have e2 := toI_ok hx h2
      cases e1; subst e2
      exact ⟨_, _, rfl, .sy rfl⟩
    · cases h
theorem max_none : ∀ r : List AV, r.foldl maxStep none = none
  | [] => rfl
  | _ :: r => max_none r

theorem maxA_ok : ∀ {xs : List AV} {vs : Array Value} {y : AV}, RelL E xs vs → maxA xs = some y → ∀ w, ∃ u, (match vs.toList with | [] => stuck "max: at least one argument expected" | x :: rest => rest.foldlM Builtin.max2 x : Sem Value).run P w = .ok u w ∧ Rel E y u := by
  intro xs vs y hr h w
  have key : ∀ (r : List AV) (us : List Value) (acc : AV) (k : IntKind) (a : Int), us.length = r.length → (∀ (i : Nat) (x : AV) (v : Value), r[i]? = some x → us[i]? = some v → Rel E x v) → Rel E acc (.int k a) →
      r.foldl maxStep (some acc) = some y → ∃ u, (us.foldlM Builtin.max2 (.int k a) : Sem Value).run P w = .ok u w ∧ Rel E y u := by
    intro r
    induction r with
    | nil =>
      intro us acc k a hl _ hacc h
      cases us with
      | nil => simp at h; subst h; exact ⟨_, rfl, hacc⟩
      | cons => simp at hl
    | cons x r ih =>
      intro us acc k a hl hrel hacc h
      cases us with
      | nil => simp at hl
      | cons u us =>
        have hxu := hrel 0 x u rfl rfl
        simp only [List.foldl_cons] at h
        cases hs : maxStep (some acc) x with
        | none => rw [hs, max_none] at h; cases h
        | some z =>
          rw [hs] at h
          obtain ⟨k', b, rfl, hz⟩ := maxStep_ok hacc hxu hs
          obtain ⟨q, h1, h2⟩ := ih us _ _ _ (by simpa using hl) (fun i x v a b => hrel (i + 1) x v (by simpa using a) (by simpa using b)) hz h
          refine ⟨q, ?_, h2⟩
          simp only [List.foldlM_cons, Sem.run_bind, Builtin.max2, Sem.run_pure, Result.andThen]
          exact h1
  match xs, h with
  | x :: r, h =>
    simp only [maxA] at h
    split at h
    case h_2 => cases h
    rename_i ke hke
    obtain ⟨k, e⟩ := ke
    cases hv : vs.toList with
    | nil =>
      have := hr.len
      have h0 : vs.size = 0 := by rw [← Array.length_toList, hv]; rfl
      rw [h0] at this; simp at this
    | cons u us =>
      have hg : ∀ i, (u :: us)[i]? = vs[i]? := fun i => by rw [← hv, Array.getElem?_toList]
      have hu := hr.at_ 0 _ u rfl (by rw [← hg]; rfl)
      have e1 := toI_ok hu hke
      subst e1
      refine key r us x k _ ?_ ?_ hu h
      · have := hr.len
        rw [← Array.length_toList, hv] at this
        simpa using this
      · intro i x v h1 h2
        exact hr.at_ (i + 1) x v (by simpa using h1) (by rw [← hg]; simpa using h2)

theorem builtinA_ok (h : St B w0 E H w) {b : Builtin} {ts : Array TypeId} {xs : List AV} {vs : Array Value} (hx : RelL E xs vs) {y : AV} {H' : Hp} (hb : builtinA C.ti H b ts xs = some (y, H')) (ty : TypeId) (cs : Array Bool) :
    Step P B w0 E (builtin b ts ty cs vs) w y H' := by
  have at0 : ∀ {x : AV}, xs[0]? = some x → ∃ v, vs[0]? = some v ∧ Rel E x v := by
    intro x hx0
    have hlt := (List.getElem?_eq_some_iff.1 hx0).1
    have : 0 < vs.size := by have := hx.len; omega
    exact ⟨vs[0], by simp [this], hx.at_ 0 _ _ hx0 (by simp [this])⟩
  unfold builtinA at hb
  cases b <;> simp only at hb <;> try (cases hb)
  case len =>
    split at hb
    · rename_i t x ht
      simp only [Option.map_eq_some_iff, Prod.mk.injEq] at hb
      obtain ⟨z, hz, rfl, rfl⟩ := hb
      obtain ⟨v, hv, hr⟩ := at0 rfl
      obtain ⟨u, h1, h2⟩ := lenA_ok C.hti hr hz ts ht ty vs hv w
      exact Step.val h h1 h2
    · cases hb
  case append =>
    split at hb
    · rename_i s t x y'
      have hl := hx.len
      obtain ⟨v0, v1, rfl⟩ : ∃ v0 v1, vs = #[v0, v1] := by
        have : vs.toList.length = 2 := by simpa using hl
        match hq : vs.toList, this with
        | [a, b], _ => exact ⟨a, b, by rw [← hq]⟩
      exact (appendA_ok C.hti h (hx.at_ 0 _ _ rfl rfl) (hx.at_ 1 _ _ rfl rfl) hb).step
    · cases hb
  case min =>
    simp only [Option.map_eq_some_iff, Prod.mk.injEq] at hb
    obtain ⟨z, hz, rfl, rfl⟩ := hb
    obtain ⟨u, h1, h2⟩ := minA_ok (P := P) hx hz w
    exact Step.val (s := Builtin.min_ ts ty vs) h h1 h2
  case max =>
    simp only [Option.map_eq_some_iff, Prod.mk.injEq] at hb
    obtain ⟨z, hz, rfl, rfl⟩ := hb
    obtain ⟨u, h1, h2⟩ := maxA_ok (P := P) hx hz w
    exact Step.val (s := Builtin.max_ ts ty vs) h h1 h2


section exec
variable (ρ : Operand → Value) (dst : Option Tmp) (type : TypeId) (pos : String) (after : Array Edge) (guard : Option (Nat × Bool))
theorem exec_alloc (t : TypeId) : execOp ρ ⟨dst, .alloc t, type, pos, after, guard⟩ = (do pure (.value (← Instr.alloc t true (.tuple #[])))) := rfl
theorem exec_box (t : TypeId) (x : Operand) : execOp ρ ⟨dst, .box t x, type, pos, after, guard⟩ = (do pure (.value (← Instr.box t (ρ x)))) := rfl
theorem exec_build (t : TypeId) (ps : Array (Nat × Operand)) : execOp ρ ⟨dst, .build t ps, type, pos, after, guard⟩ = (do pure (.value (← Instr.build t (ps.map fun p => (p.1, ρ p.2))))) := rfl
theorem exec_buildSlice (t : TypeId) (n : Nat) (ps : Array (Nat × Operand)) : execOp ρ ⟨dst, .buildSlice t n ps, type, pos, after, guard⟩ = (do pure (.value (← Instr.buildSlice t n (ps.map fun p => (p.1, ρ p.2))))) := rfl
theorem exec_load (t : TypeId) (x : Operand) : execOp ρ ⟨dst, .load t x, type, pos, after, guard⟩ = (do pure (.value (← Instr.loadAt t (ρ x)))) := rfl
theorem exec_store (t : TypeId) (p x : Operand) : execOp ρ ⟨dst, .store t p x, type, pos, after, guard⟩ = (do Instr.storeAt t (ρ p) (ρ x); pure .skip) := rfl
theorem exec_binOp (op : BinOp) (t yt : TypeId) (x y : Operand) : execOp ρ ⟨dst, .binOp op t x y yt, type, pos, after, guard⟩ = (do pure (.value (← (do eqGuard op t x y (ρ x) (ρ y); binOp op t (ρ x) (ρ y) : Sem Value)))) := rfl
theorem exec_unOp (op : UnOp) (t : TypeId) (x : Operand) : execOp ρ ⟨dst, .unOp op t x, type, pos, after, guard⟩ = (do pure (.value (← Op.unary op (ρ x)))) := rfl
theorem exec_convert (s d : TypeId) (x : Operand) : execOp ρ ⟨dst, .convert s d x, type, pos, after, guard⟩ = (do pure (.value (← convert s d (ρ x)))) := rfl
theorem exec_makeFunc (fn : Fn) (first caps : Array Operand) : execOp ρ ⟨dst, .makeFunc fn first caps, type, pos, after, guard⟩ = (do pure (.value (← Instr.makeFunc fn (first.map ρ) (caps.map ρ)))) := rfl
theorem exec_makeSlice (t : TypeId) (l c : Operand) : execOp ρ ⟨dst, .makeSlice t l c, type, pos, after, guard⟩ = (do pure (.value (← Instr.makeSlice t (ρ l) (ρ c)))) := rfl
theorem exec_slice (t : TypeId) (x : Operand) (lo hi mx : Option Operand) : execOp ρ ⟨dst, .slice t x lo hi mx, type, pos, after, guard⟩ = (do pure (.value (← Instr.sliceAt t (ρ x) (lo.map ρ) (hi.map ρ) (mx.map ρ)))) := rfl
theorem exec_fieldAddr (t : TypeId) (x : Operand) (f : Nat) : execOp ρ ⟨dst, .fieldAddr t x f, type, pos, after, guard⟩ = (do pure (.value (← Instr.fieldAt t (ρ x) f))) := rfl
theorem exec_field (t : TypeId) (x : Operand) (f : Nat) : execOp ρ ⟨dst, .field t x f, type, pos, after, guard⟩ = (do pure (.value (← Instr.field t (ρ x) f))) := rfl
theorem exec_indexAddr (t : TypeId) (x i : Operand) : execOp ρ ⟨dst, .indexAddr t x i, type, pos, after, guard⟩ = (do pure (.value (← Instr.indexAt t (ρ x) (ρ i)))) := rfl
theorem exec_index (t : TypeId) (x i : Operand) : execOp ρ ⟨dst, .index t x i, type, pos, after, guard⟩ = (do pure (.value (← Instr.index t (ρ x) (ρ i)))) := rfl
theorem exec_extract (x : Operand) (i : Nat) : execOp ρ ⟨dst, .extract x i, type, pos, after, guard⟩ = (do pure (.value (← Instr.extract (ρ x) i))) := rfl
end exec

set_option maxHeartbeats 2000000 in
theorem evOp_ok (hσ : w0.σ = C.σ) (h : St B w0 E H w) {T : List AV} {a : Act} (hT : RelL E T a.tmps) {o : Oper} {x : AV} {H' : Hp} (he : evOp C.ti C.keys C.as T H o = some (x, H')) : Step P B w0 E (execOp a.eval o) w x H' := by
  obtain ⟨dst, op, type, pos, after, guard⟩ := o
  unfold evOp at he
  cases op <;> simp only at he <;> try (cases he; done)
  case move y => cases he; exact ⟨E, _, w, rfl, .refl E, h, .inl ⟨_, rfl, rel_evO hT y⟩⟩
  case assign y => cases he; exact ⟨E, _, w, rfl, .refl E, h, .inl ⟨_, rfl, rel_evO hT y⟩⟩
  case pick c p q =>
    have hc := rel_evO hT c
    have go : ∀ t, a.eval c = .bool t → some (pickA t (evO T p) (evO T q), H) = some (x, H') → Step P B w0 E (execOp a.eval ⟨dst, .pick c p q, type, pos, after, guard⟩) w x H' := by
      intro t hcv he
      cases he
      refine ⟨E, .value (if t then a.eval p else a.eval q), w, by simp [execOp, hcv, asBool], .refl E, h, .inl ⟨_, rfl, ?_⟩⟩
      rw [pickA_eq]
      cases t
      · exact rel_evO hT q
      · exact rel_evO hT p
    split at he
    · rename_i t ht
      rw [ht] at hc
      refine go t ?_ he
      generalize a.eval c = vc at hc
      cases hc; rfl
    · rename_i e ht
      rw [ht] at hc
      split at he
      · rename_i t hl
        refine go t ?_ he
        have := look_ok C.has hl
        generalize a.eval c = vc at hc
        cases hc with
        | sb hb => rw [← hb, h.sig, hσ, this]
      · cases he
    · cases he
  case alloc t => rw [exec_alloc]; exact (allocA_ok C.hti h he).step
  case box t y =>
    cases ha : (evO T y).isAny with
    | true => simp only [ha, cond_true] at he; cases he
    | false =>
      simp only [ha, cond_false] at he
      cases he; rw [exec_box]; exact (box_ok h (rel_evO hT y) ha).step
  case build t ps =>
    simp only [Option.map_eq_some_iff, Prod.mk.injEq] at he
    obtain ⟨z, hz, rfl, rfl⟩ := he
    obtain ⟨v, h1, h2⟩ := buildA_ok (P := P) C.hti (qs := ps.map fun p => (p.1, a.eval p.2)) (by simpa using pairs_of hT ps.toList) hz w
    rw [exec_build]; exact Step.val h h1 h2
  case buildSlice t n ps => rw [exec_buildSlice]; exact (buildSliceA_ok C.hti h (qs := ps.map fun p => (p.1, a.eval p.2)) (by simpa using pairs_of hT ps.toList) he).step
  case load t y =>
    simp only [Option.map_eq_some_iff, Prod.mk.injEq] at he
    obtain ⟨z, hz, rfl, rfl⟩ := he
    obtain ⟨u, h1, h2⟩ := loadA_ok C.hti h (rel_evO hT y) hz
    rw [exec_load]; exact Step.val h h1 h2
  case store t p y =>
    split at he
    · rename_i i hi
      obtain ⟨ht⟩ := tiOf_ok (C.hti _ _ hi)
      cases hb : (Nat.beq (evO T y).cells.length i.size && !(evO T y).isAny) with
      | false => simp only [hb, cond_false] at he; cases he
      | true =>
        simp only [hb, cond_true, Option.map_eq_some_iff, Prod.mk.injEq] at he
        obtain ⟨H1, hs, rfl, rfl⟩ := he
        simp only [Bool.and_eq_true, Bool.not_eq_true'] at hb
        have hc := (rel_evO hT y).cells hb.2
        have hb := Nat.eq_of_beq_eq_true hb.1
        obtain ⟨ad, w', h1, h2, h3⟩ := storeCellsA_ok (P := P) h (rel_evO hT p) hc hs
        refine ⟨E, .skip, w', ?_, .refl E, h3, .inr ⟨rfl, rfl⟩⟩
        have hsz : ¬ ((a.eval y).cells.size ≠ i.size) := by have := hc.len; omega
        rw [exec_store]
        simp only [Instr.storeAt, h1, Instr.sureAddr, storeVar, ht.sizeOf, Sem.run_bind, Sem.run_pure, Result.andThen]
        rw [if_neg hsz, h2]
    · cases he
  case nilCheck y =>
    have hy := rel_evO hT y
    split at he
    all_goals first
      | (cases he; done)
      | (rename_i heq
         cases he
         rw [heq] at hy
         generalize hv : a.eval y = v at hy
         have hy2 := hy
         cases hy
         exact ⟨E, _, w, by simp [execOp, hv], .refl E, h, .inl ⟨_, rfl, hy2⟩⟩)
  case binOp op t p q yt =>
    simp only [Option.map_eq_some_iff, Prod.mk.injEq] at he
    obtain ⟨z, hz, rfl, rfl⟩ := he
    obtain ⟨u, h1, h2⟩ := binA_ok C (rel_evO hT p) (rel_evO hT q) hz p q w
    rw [exec_binOp]; exact Step.val h h1 h2
  case unOp op t y =>
    have hy := rel_evO hT y
    split at he
    · rename_i v hv
      simp only [Option.map_eq_some_iff, Prod.mk.injEq] at he
      obtain ⟨z, hz, rfl, rfl⟩ := he
      rw [hv] at hy
      rw [exec_unOp]; exact Step.val h (by cases hy; exact sun_ok hz w) (.lit _)
    · rename_i e hv
      split at he
      · cases he
        rw [hv] at hy
        rw [exec_unOp]
        generalize a.eval y = v at hy
        cases hy with
        | sb hb =>
          rename_i b
          exact Step.val h (v := .bool (!b)) (sun_ok (x := .bool b) (op := .not) rfl w) (.sb (by simp [BExp.eval, hb]))
      · cases he
    · rename_i k e hv
      split at he
      · cases he
        rw [hv] at hy
        have e1 := toI_ok hy (k := k) (e := e) rfl
        rw [exec_unOp, e1]
        exact Step.val h (v := .int k (wr k (0 - e.eval E.σ))) (sun_ok (x := .int k (e.eval E.σ)) (op := .neg) rfl w) (.sy rfl)
      · cases he
    · cases he
  case convert s d y => rw [exec_convert]; exact (convA_ok C.hti h (rel_evO hT y) he).step
  case makeFunc fn first caps =>
    split at he
    · cases he
      rename_i f
      rw [exec_makeFunc]; refine Step.val h rfl ?_
      have := rel_evOs hT caps
      rw [show (Array.map a.eval (⟨[]⟩ : Array Operand)) = #[] by simp]
      exact .fn this.len this.at_
    · cases he
  case makeSlice t l c => rw [exec_makeSlice]; exact (makeSliceA_ok C.hti h (rel_evO hT l) (rel_evO hT c) he).step
  case slice t y lo hi mx =>
    split at he
    · rename_i l' h' m' e1 e2 e3
      simp only [Option.map_eq_some_iff, Prod.mk.injEq] at he
      obtain ⟨z, hz, rfl, rfl⟩ := he
      obtain ⟨u, h1, h2⟩ := sliceA_ok C.hti h (rel_evO hT y) (optInt_ok hT e1) (optInt_ok hT e2) (optInt_ok hT e3) hz
      rw [exec_slice]; exact Step.val h h1 h2
    · cases he
  case fieldAddr t y f =>
    simp only [Option.map_eq_some_iff, Prod.mk.injEq] at he
    obtain ⟨z, hz, rfl, rfl⟩ := he
    obtain ⟨u, h1, h2⟩ := fieldAddrA_ok C.hti (rel_evO hT y) hz w
    rw [exec_fieldAddr]; exact Step.val h h1 h2
  case field t y f =>
    simp only [Option.map_eq_some_iff, Prod.mk.injEq] at he
    obtain ⟨z, hz, rfl, rfl⟩ := he
    obtain ⟨u, h1, h2⟩ := fieldA_ok C.hti (rel_evO hT y) hz w
    rw [exec_field]; exact Step.val h h1 h2
  case indexAddr t y i =>
    simp only [Option.map_eq_some_iff, Prod.mk.injEq] at he
    obtain ⟨z, hz, rfl, rfl⟩ := he
    obtain ⟨u, h1, h2⟩ := indexAddrA_ok C.hti (rel_evO hT y) (rel_evO hT i) hz w
    rw [exec_indexAddr]; exact Step.val h h1 h2
  case index t y i =>
    simp only [Option.map_eq_some_iff, Prod.mk.injEq] at he
    obtain ⟨z, hz, rfl, rfl⟩ := he
    obtain ⟨u, h1, h2⟩ := indexA_ok C.hti (rel_evO hT y) (rel_evO hT i) hz w
    rw [exec_index]; exact Step.val h h1 h2
  case extract y i =>
    split at he
    · rename_i vs hvs
      simp only [Option.map_eq_some_iff, Prod.mk.injEq] at he
      obtain ⟨z, hz, rfl, rfl⟩ := he
      have hy := rel_evO hT y
      rw [hvs] at hy
      generalize hv : a.eval y = v at hy
      cases hy with
      | tup hl hr =>
        rename_i us
        have hlt := (List.getElem?_eq_some_iff.1 hz).1
        have : i < us.size := by omega
        rw [exec_extract]; refine Step.val h (v := us[i]) ?_ (hr i _ _ hz (by simp [this]))
        rw [hv]
        simp [Instr.extract, this]
    · cases he
  case call c =>
    obtain ⟨callee, args, ts⟩ := c
    cases callee <;> simp only at he <;> try (cases he; done)
    rename_i b
    obtain ⟨E', nx, w', h1, h2⟩ := builtinA_ok C h (rel_evOs hT args) he type (args.map fun | .const _ => true | _ => false)
    refine ⟨E', nx, w', ?_, h2⟩
    simp only [execOp, resolve, Sem.run_bind, Sem.run_pure, Result.andThen, invoke]
    exact h1
end
end Go.Proofs.Ytikcninaepoojaa.Ev
