/- Comparisons, conversions, and all operations but calls together. -/
import Derived.Test.YtikcninaepoojaaEv6
import Derived.Laws.BytesString
import Derived.DeepKeys
namespace Go.Proofs.Ytikcninaepoojaa.Ev
open Go.RowKit (Below)
set_option linter.unusedVariables false
set_option linter.unusedSimpArgs false
set_option linter.unusedSectionVars false

/-! ### comparisons -/
inductive KK where
  | int (k : IntKind) | bool | string

/-- Cells of these kinds. -/
def hasK : List KK → List Value → Prop
  | [], [] => True
  | .int k :: ks, .int k' _ :: vs => k = k' ∧ hasK ks vs
  | .bool :: ks, .bool _ :: vs => hasK ks vs
  | .string :: ks, .string _ :: vs => hasK ks vs
  | _, _ => False

/-- How values of a type of structs or arrays are compared. -/
structure KeyOk (P : Program) (t : Nat) (ks : List KK) : Prop where
  guard : P.eqGuardType P.depth t = false
  eq : ∀ (xs ys : Array Value), hasK ks xs.toList → hasK ks ys.toList → ∀ w, ∃ r : Bool, (Op.equal t (.agg xs) (.agg ys)).run P w = .ok r w ∧ (r = true ↔ xs = ys)
  chk : ∀ (em : Bool) (xs : Array Value), hasK ks xs.toList → ∀ w, (Instr.checkKey em 10000 t (.agg xs)).run P w = .ok () w

def bAnd : BExp → BExp → BExp
  | .lit true, y => y
  | .lit false, _ => .lit false
  | x, .lit true => x
  | x, y => .and x y

theorem bAnd_eval (σ : Sig) (x y : BExp) : (bAnd x y).eval σ = (x.eval σ && y.eval σ) := by
  unfold bAnd
  split <;> simp [BExp.eval]

def eqI : IExp → IExp → BExp
  | .num a, .num b => .lit (decide (a = b))
  | a, b => .cmp .eql a b

theorem eqI_eval (σ : Sig) (a b : IExp) : (eqI a b).eval σ = decide (a.eval σ = b.eval σ) := by
  unfold eqI
  split
  · rfl
  · simp [BExp.eval, icmp]

def eqS : SExp → SExp → BExp
  | .lit a, .lit b => .lit (beqS a b)
  | a, b => .seq a b

theorem eqS_eval (σ : Sig) (a b : SExp) : (eqS a b).eval σ = beqS (a.eval σ) (b.eval σ) := by
  unfold eqS
  split <;> simp [BExp.eval, SExp.eval]

theorem beqS_iff {a b : ByteArray} : beqS a b = true ↔ a = b := ⟨beqS_eq, fun h => by subst h; simp [beqS]⟩

def eqCells : List KK → List AV → List AV → Option BExp
  | [], [], [] => some (.lit true)
  | .int k :: ks, x :: xs, y :: ys => match toI x, toI y with
    | some (k1, a), some (k2, b) => bif decide (k = k1) && decide (k = k2) then (eqCells ks xs ys).map (bAnd (eqI a b)) else none
    | _, _ => none
  | .bool :: ks, .lit (.bool a) :: xs, .lit (.bool b) :: ys => (eqCells ks xs ys).map (bAnd (.lit (a == b)))
  | .string :: ks, x :: xs, y :: ys => match toS x, toS y with
    | some a, some b => (eqCells ks xs ys).map (bAnd (eqS a b))
    | _, _ => none
  | _, _, _ => none

theorem eqCells_ok {E : Env} : ∀ (ks : List KK) (xs ys : List AV) (us vs : List Value) {r : BExp}, us.length = xs.length → vs.length = ys.length →
    (∀ (i : Nat) (x : AV) (v : Value), xs[i]? = some x → us[i]? = some v → Rel E x v) → (∀ (i : Nat) (x : AV) (v : Value), ys[i]? = some x → vs[i]? = some v → Rel E x v) →
    eqCells ks xs ys = some r → hasK ks us ∧ hasK ks vs ∧ (r.eval E.σ = true ↔ us = vs)
  | [], [], [], [], [], r, _, _, _, _, h => by simp only [eqCells, Option.some.injEq] at h; subst h; exact ⟨trivial, trivial, by simp [BExp.eval]⟩
  | k :: ks, x :: xs, y :: ys, u :: us, v :: vs, r, h1, h2, h3, h4, h => by
    have r1 := h3 0 x u rfl rfl
    have r2 := h4 0 y v rfl rfl
    have key : ∀ {q : BExp}, eqCells ks xs ys = some q → hasK ks us ∧ hasK ks vs ∧ (q.eval E.σ = true ↔ us = vs) := fun {q} hq =>
      eqCells_ok ks xs ys us vs (by simpa using h1) (by simpa using h2) (fun i x v a b => h3 (i + 1) x v (by simpa using a) (by simpa using b)) (fun i x v a b => h4 (i + 1) x v (by simpa using a) (by simpa using b)) hq
    unfold eqCells at h
    split at h
    · rename_i h0; cases h0
    · rename_i kk ks' x' xs' y' ys' e1 e2 e3
      cases e1; cases e2; cases e3
      split at h
      case h_2 => cases h
      rename_i k1 a k2 b ea eb
      have u1 := toI_ok r1 ea
      have u2 := toI_ok r2 eb
      cases hb : (decide (kk = k1) && decide (kk = k2)) with
      | false => simp only [hb, cond_false] at h; cases h
      | true =>
        simp only [hb, cond_true, Option.map_eq_some_iff] at h
        simp only [Bool.and_eq_true, decide_eq_true_eq] at hb
        obtain ⟨rfl, rfl⟩ := hb
        obtain ⟨q, hq, rfl⟩ := h
        obtain ⟨p1, p2, p3⟩ := key hq
        subst u1 u2
        refine ⟨⟨rfl, p1⟩, ⟨rfl, p2⟩, by rw [bAnd_eval, eqI_eval]; simp [p3]⟩
    · rename_i ks' a xs' b ys' e1 e2 e3
      cases e1; cases e2; cases e3
      cases r1; cases r2
      simp only [Option.map_eq_some_iff] at h
      obtain ⟨q, hq, rfl⟩ := h
      obtain ⟨p1, p2, p3⟩ := key hq
      exact ⟨p1, p2, by rw [bAnd_eval]; simp [p3, BExp.eval]⟩
    · rename_i ks' x' xs' y' ys' e1 e2 e3
      cases e1; cases e2; cases e3
      split at h
      case h_2 => cases h
      rename_i a b ea eb
      have u1 := toS_ok r1 ea
      have u2 := toS_ok r2 eb
      simp only [Option.map_eq_some_iff] at h
      obtain ⟨q, hq, rfl⟩ := h
      obtain ⟨p1, p2, p3⟩ := key hq
      subst u1 u2
      refine ⟨p1, p2, ?_⟩
      rw [bAnd_eval, eqS_eval]
      simp only [Bool.and_eq_true, beqS_iff, p3, List.cons.injEq, Value.string.injEq]
    · cases h
  | [], _ :: _, _, _, _, _, _, _, _, _, h => by simp [eqCells] at h
  | [], [], _ :: _, _, _, _, _, _, _, _, h => by simp [eqCells] at h
  | k :: _, [], _, _, _, _, _, _, _, _, h => by cases k <;> simp [eqCells] at h
  | k :: _, x :: _, [], _, _, _, _, _, _, _, h => by unfold eqCells at h; split at h <;> rename_i e <;> first | (cases h; done) | simp_all
  | _ :: _, _ :: _, _ :: _, [], _, _, h, _, _, _, _ => by simp at h
  | _ :: _, _ :: _, _ :: _, _ :: _, [], _, _, h, _, _, _ => by simp at h
  | [], [], [], _ :: _, _, _, h, _, _, _, _ => by simp at h
  | [], [], [], [], _ :: _, _, _, h, _, _, _ => by simp at h

def isAggA : AV → Bool
  | .agg _ => true
  | .lit (.agg _) => true
  | _ => false

/-- x = y, of values that are no numbers and no strings. -/
def eqA (ti : Nat → Option TI) (keys : Nat → Option (List KK)) (t : Nat) (x y : AV) : Option BExp :=
  match ti t with
  | some ⟨.ptr _, _, _, _⟩ => match x, y with
    | .ptr _ _, .lit (.pointer none) => some (.lit false)
    | .ip _, .lit (.pointer none) => some (.lit false)
    | .lit (.pointer none), .ptr _ _ => some (.lit false)
    | .lit (.pointer none), .ip _ => some (.lit false)
    | .lit (.pointer none), .lit (.pointer none) => some (.lit true)
    | _, _ => none
  | some ⟨.func, _, _, _⟩ => match x, y with
    | .fn _ _, .lit .nilFunc => some (.lit false)
    | .lit .nilFunc, .fn _ _ => some (.lit false)
    | .lit .nilFunc, .lit .nilFunc => some (.lit true)
    | _, _ => none
  | some ⟨.bool, _, _, _⟩ => match x, y with
    | .lit (.bool a), .lit (.bool b) => some (.lit (a == b))
    | _, _ => none
  | some ⟨.struct _, _, _, _⟩ => match keys t with
    | some ks => bif isAggA x && isAggA y then eqCells ks x.cells y.cells else none
    | none => none
  | some ⟨.array _ _, _, _, _⟩ => match keys t with
    | some ks => bif isAggA x && isAggA y then eqCells ks x.cells y.cells else none
    | none => none
  | _ => none

section
variable {P : Program} {ti : Nat → Option TI} (hti : ∀ t i, ti t = some i → tiOf P t = some i)
variable {keys : Nat → Option (List KK)} (hkeys : ∀ t ks, keys t = some ks → KeyOk P t ks)
variable {B : Nat} {w0 : Base} {E : Env} {H : Hp} {w : World}

theorem aggOf {x : AV} {v : Value} (hx : Rel E x v) (h : isAggA x = true) : ∃ vs, v = .agg vs ∧ RelL E x.cells vs := by
  have hna : x.isAny = false := by cases x <;> first | rfl | (simp [isAggA] at h)
  have hc := hx.cells hna
  cases hx <;> simp only [isAggA] at h <;> try (cases h)
  case agg => exact ⟨_, rfl, hc⟩
  case lit => 
    cases v <;> simp only at h <;> try (cases h)
    exact ⟨_, rfl, hc⟩

theorem eq_ptr (d : Nat) {t e : Nat} (hu : P.underlying t = some (.pointer e)) (a : Option Addr) : (Op.equalIn (d + 1) t (.pointer a) (.pointer none)).run P w = .ok a.isNone w ∧ (Op.equalIn (d + 1) t (.pointer none) (.pointer a)).run P w = .ok a.isNone w := by
  cases a <;> simp [Op.equalIn, run_underlying hu]
theorem eq_func (d : Nat) {t : Nat} {p q : Array TypeId} {s : Bool} (hu : P.underlying t = some (.func p q s)) (f : Fn) (a b : Array Value) :
    (Op.equalIn (d + 1) t (.func f a b) .nilFunc).run P w = .ok false w ∧ (Op.equalIn (d + 1) t .nilFunc (.func f a b)).run P w = .ok false w ∧ (Op.equalIn (d + 1) t .nilFunc .nilFunc).run P w = .ok true w := by
  simp [Op.equalIn, run_underlying hu]

include hti hkeys in
theorem eqA_ok {t : Nat} {x y : AV} {vx vy : Value} (hx : Rel E x vx) (hy : Rel E y vy) {e : BExp} (he : eqA ti keys t x y = some e) (ox oy : Operand) (w : World) :
    (do eqGuard .eql t ox oy vx vy; binOp .eql t vx vy : Sem Value).run P w = .ok (.bool (e.eval E.σ)) w ∧ (do eqGuard .neq t ox oy vx vy; binOp .neq t vx vy : Sem Value).run P w = .ok (.bool (!e.eval E.σ)) w := by
  have h := he
  clear he
  have fin : ∀ {r : Bool}, (∀ op, (eqGuard op t ox oy vx vy).run P w = .ok () w) → (match vx, vy with | .int _ _, .int _ _ => False | .float _ _, .float _ _ => False | .complex _ _ _, .complex _ _ _ => False | .string _, .string _ => False | _, _ => True) →
      (Op.equal t vx vy).run P w = .ok r w →
      (do eqGuard .eql t ox oy vx vy; binOp .eql t vx vy : Sem Value).run P w = .ok (.bool r) w ∧ (do eqGuard .neq t ox oy vx vy; binOp .neq t vx vy : Sem Value).run P w = .ok (.bool (!r)) w := by
    intro r hg hm he
    simp only [Sem.run_bind, hg, Result.andThen]
    cases vx <;> cases vy <;> first | exact hm.elim | (simp [binOp, he])
  unfold eqA at h
  split at h
  · rename_i e a b z htt
    obtain ⟨ht⟩ := tiOf_ok (hti _ _ htt)
    have hu : P.underlying t = some (.pointer e) := ht.ptr ▸ ht.hu
    split at h <;> cases h <;> cases hx <;> cases hy <;> refine fin (fun op => eqGuard_plain (by trivial)) (by trivial) ?_ <;> first | exact (eq_ptr 9999 hu _).1 | exact (eq_ptr 9999 hu _).2
  · rename_i a b z htt
    obtain ⟨ht⟩ := tiOf_ok (hti _ _ htt)
    obtain ⟨p, q, s, hd⟩ := ht.func
    have hu : P.underlying t = some (.func p q s) := hd ▸ ht.hu
    split at h <;> cases h <;> cases hx <;> cases hy <;> refine fin (fun op => eqGuard_plain (by trivial)) (by trivial) ?_ <;>
      first | exact (eq_func 9999 hu _ _ _).1 | exact (eq_func 9999 hu _ _ _).2.1 | exact (eq_func 9999 hu (.func 0) #[] #[]).2.2
  · rename_i a b z htt
    obtain ⟨ht⟩ := tiOf_ok (hti _ _ htt)
    have hu : P.underlying t = some .bool := by
      have := ht.d_eq
      have h2 := ht.hu
      cases hd : ht.d <;> rw [hd] at this h2 <;> simp [TD.of] at this
      exact h2
    split at h <;> cases h
    cases hx; cases hy
    refine fin (fun op => eqGuard_plain (by trivial)) (by trivial) ?_
    exact run_equal_bool w t _ _ hu
  all_goals first
    | (cases h; done)
    | (rename_i htt
       split at h
       · rename_i ks hks
         cases hb : (isAggA x && isAggA y) with
         | false => simp only [hb, cond_false] at h; cases h
         | true =>
           simp only [hb, cond_true] at h
           simp only [Bool.and_eq_true] at hb
           obtain ⟨us, rfl, hus⟩ := aggOf hx hb.1
           obtain ⟨vs, rfl, hvs⟩ := aggOf hy hb.2
           obtain ⟨p1, p2, p3⟩ := eqCells_ok ks x.cells y.cells us.toList vs.toList (by have := hus.len; simpa using this) (by have := hvs.len; simpa using this)
             (fun i x v a b => hus.at_ i x v a (by simpa using b)) (fun i x v a b => hvs.at_ i x v a (by simpa using b)) h
           have K := hkeys t ks hks
           obtain ⟨r', q1, q2⟩ := K.eq us vs p1 p2 w
           have p3 : e.eval E.σ = true ↔ us = vs := p3.trans ⟨fun h => Array.ext' h, fun h => by rw [h]⟩
           have hr : r' = e.eval E.σ := by
             cases hq : e.eval E.σ <;> cases r' <;> simp_all
           rw [← hr]
           refine fin (fun op => ?_) (by trivial) q1
           unfold eqGuard
           cases op <;> simp [K.guard]
       · cases h)

/-! ### conversions -/
def bytesA : List AV → Option (List UInt8)
  | [] => some []
  | .lit (.int .u8 n) :: r => (bytesA r).map (UInt8.ofNat n.toNat :: ·)
  | _ => none

theorem bytesA_ok : ∀ (l : List AV) (vs : List Value) {bs : List UInt8}, vs.length = l.length → (∀ (i : Nat) (x : AV) (v : Value), l[i]? = some x → vs[i]? = some v → Rel E x v) → bytesA l = some bs →
    ∃ ns : List Int, vs = ns.map (Value.int .u8) ∧ bs = ns.map fun n => UInt8.ofNat n.toNat
  | [], [], bs, _, _, h => by simp [bytesA] at h; subst h; exact ⟨[], rfl, rfl⟩
  | x :: r, v :: vs, bs, hl, hr, h => by
    unfold bytesA at h
    split at h
    · rename_i e; cases e
    · rename_i n r' e
      cases e
      simp only [Option.map_eq_some_iff] at h
      obtain ⟨bs', hb, rfl⟩ := h
      have := hr 0 _ _ rfl rfl
      cases this
      obtain ⟨ns, h1, h2⟩ := bytesA_ok r vs (by simpa using hl) (fun i x v a b => hr (i + 1) x v (by simpa using a) (by simpa using b)) hb
      exact ⟨n :: ns, by simp [h1], by simp [h2]⟩
    · cases h
  | [], _ :: _, _, h, _, _ => by simp at h
  | _ :: _, [], _, h, _, _ => by simp at h

theorem foldl_push (ns : List Int) : ∀ s : ByteArray, (ns.foldl (fun r n => r.push (UInt8.ofNat n.toNat)) s) = ⟨s.data ++ (ns.map fun n => UInt8.ofNat n.toNat).toArray⟩ := by
  induction ns with
  | nil => intro s; simp
  | cons n ns ih =>
    intro s
    simp only [List.foldl_cons, ih, List.map_cons]
    cases s
    simp [ByteArray.push]

def bytesToStrA (ti : Nat → Option TI) (H : Hp) (si : TI) (x : AV) : Option AV :=
  match si.d with
  | .slice e => match ti e with
    | some ⟨.int .u8, _, _, _⟩ => match x with
      | .lit (.slice none _ _) => some (.lit (.string ⟨#[]⟩))
      | x => bif isStr x then none else match srcA H 1 x with
        | some (_, l) => bif l.all AV.one then (bytesA l).map fun bs => .lit (.string ⟨bs.toArray⟩) else none
        | none => none
    | _ => none
  | _ => none

def convA (ti : Nat → Option TI) (H : Hp) (s d : Nat) (x : AV) : Option (AV × Hp) :=
  match ti s, ti d with
  | some si, some di => match di.d with
    | .int k => match x with
      | .lit (.int _ n) => some (.lit (.int k (wr k n)), H)
      | .sy _ e => some (.sy k (.conv k e), H)
      | _ => none
    | .string => match x with
      | .lit (.string b) => some (.lit (.string b), H)
      | x => (bytesToStrA ti H si x).map fun y => (y, H)
    | .slice e => match x with
      | .lit (.string b) => match ti e with
        | some ⟨.int .u8, _, _, _⟩ => some (.sl H.n 0 1 b.data.size none, H.new (.cells (b.data.toList.map fun c => .lit (.int .u8 c.toNat)) false))
        | _ => none
      | _ => none
    | _ => none
  | _, _ => none

theorem modify_push {α : Type} (a : Array α) (x : α) (f : α → α) : (a.push x).modify a.size f = a.push (f x) := by
  apply Array.ext_getElem?
  intro i
  rw [Array.getElem?_modify, Array.getElem?_push, Array.getElem?_push]
  by_cases h : a.size = i
  · subst h; simp
  · rw [if_neg h, if_neg (fun e => h e.symm), if_neg (fun e => h e.symm)]

include hti in
theorem bytesToStrA_ok (h : St B w0 E H w) {s d : Nat} {si di : TI} (hts : TIok P s si) (htd : TIok P d di) (hds : htd.d = .string) {x y : AV} {v : Value} (hx : Rel E x v) (hb : bytesToStrA ti H si x = some y) :
    ∃ u, (convert s d v).run P w = .ok u w ∧ Rel E y u := by
  unfold bytesToStrA at hb
  split at hb
  case h_2 => cases hb
  rename_i e hse
  split at hb
  case h_2 => cases hb
  rename_i e1 e2 e3 hte
  obtain ⟨hte⟩ := tiOf_ok (hti _ _ hte)
  have hue := hte.int
  have hus : hts.d = .slice e := by
    have hq := hts.d_eq
    rw [hse] at hq
    cases hdd : hts.d <;> rw [hdd] at hq <;> simp [TD.of] at hq
    rw [hq]
  split at hb
  · cases hx; cases hb
    refine ⟨.string .empty, ?_, .lit _⟩
    simp [convert, hts.underlying, htd.underlying, hus, hds, hte.underlying, hue, Conv.bytesToString]
  · rename_i x' hne
    cases hstr : isStr x with
    | true => simp only [hstr, cond_true] at hb; cases hb
    | false =>
      simp only [hstr, cond_false] at hb
      split at hb
      case h_2 => cases hb
      rename_i n l hsrc
      cases ho : l.all AV.one with
      | false => simp only [ho, cond_false] at hb; cases hb
      | true =>
        simp only [ho, cond_true, Option.map_eq_some_iff] at hb
        obtain ⟨bs, hbs, rfl⟩ := hb
        have hu : P.underlying s = some (.slice e) := hus ▸ hts.hu
        have hnostr : ∀ s', v ≠ .string s' := by
          intro s' hs'
          subst hs'
          cases hx
          all_goals first | (simp [isStr] at hstr; done) | (simp [srcA] at hsrc; done)
        obtain ⟨news, hS, hR⟩ := srcA_ok (P := P) (tx := s) h hx hsrc ho (.inl ⟨e, hu, hnostr⟩)
        obtain ⟨ns, h1, h2⟩ := bytesA_ok l news (by have := hR.len; simpa using this) (fun i x v a b => hR.at_ i x v a (by simpa using b)) hbs
        have hlen := hS.len w
        have hcells := hS.cells
        have hv : ∃ a len cap, v = .slice a len cap := by
          cases v <;> simp [Builtin.lenOf] at hlen
          · exact absurd rfl (hnostr _)
          · exact ⟨_, _, _, rfl⟩
        obtain ⟨a, len, cap, rfl⟩ := hv
        simp only [Builtin.lenOf, Sem.run_pure, Result.ok.injEq, and_true] at hlen
        subst hlen
        refine ⟨.string ⟨bs.toArray⟩, ?_, .lit _⟩
        simp only [convert, Sem.run_bind, hts.underlying, htd.underlying, Result.andThen, hus, hds, hte.underlying, hue]
        cases a with
        | none =>
          simp only [Builtin.firstCells, Sem.run_pure, Result.ok.injEq, and_true] at hcells
          have : news = [] := by have := congrArg Array.toList hcells; simpa using this.symm
          subst this
          have : ns = [] := by simpa using h1.symm
          subst this
          subst h2
          rfl
        | some a =>
          simp only [Builtin.firstCells, Nat.mul_one] at hcells
          rw [h1] at hcells
          rw [run_bytesToString w a len cap ns hcells, foldl_push, h2]
          simp

include hti in
theorem convA_ok (h : St B w0 E H w) {s d : Nat} {x y : AV} {v : Value} (hx : Rel E x v) {H' : Hp} (hc : convA ti H s d x = some (y, H')) : StepV P B w0 E (convert s d v) w y H' := by
  unfold convA at hc
  split at hc
  case h_2 => cases hc
  rename_i si di hs hd
  obtain ⟨hts⟩ := tiOf_ok (hti _ _ hs)
  obtain ⟨htd⟩ := tiOf_ok (hti _ _ hd)
  have hde := htd.d_eq
  split at hc
  · rename_i k hk
    have hu : htd.d = .int k := by
      rw [hk] at hde
      cases hdd : htd.d <;> rw [hdd] at hde <;> simp [TD.of] at hde
      rw [hde]
    split at hc
    · cases hx; cases hc
      rename_i k' n
      refine .same h (v := .int k (wr k n)) ?_ (.lit _)
      simp [convert, hts.underlying, htd.underlying, hu, Conv.intToInt, wr_eq]
    · rename_i k' e
      cases hc
      have e1 := toI_ok hx (k := k') (e := e) rfl
      subst e1
      refine .same h (v := .int k (wr k (e.eval E.σ))) ?_ (.sy rfl)
      simp [convert, hts.underlying, htd.underlying, hu, Conv.intToInt, wr_eq]
    · cases hc
  · rename_i hk
    have hu : htd.d = .string := by
      rw [hk] at hde
      cases hdd : htd.d <;> rw [hdd] at hde <;> simp [TD.of] at hde
    split at hc
    · cases hx; cases hc
      rename_i b
      refine .same h (v := .string b) ?_ (.lit _)
      simp [convert, hts.underlying, htd.underlying, hu]
    · simp only [Option.map_eq_some_iff, Prod.mk.injEq] at hc
      obtain ⟨y', hy', rfl, rfl⟩ := hc
      obtain ⟨u, h1, h2⟩ := bytesToStrA_ok hti h hts htd hu hx hy'
      exact .same h h1 h2
  · rename_i e hk
    have hu : htd.d = .slice e := by
      rw [hk] at hde
      cases hdd : htd.d <;> rw [hdd] at hde <;> simp [TD.of] at hde
      rw [hde]
    split at hc
    case h_2 => cases hc
    rename_i b
    split at hc
    case h_2 => cases hc
    rename_i e1 e2 e3 hte
    obtain ⟨hte⟩ := tiOf_ok (hti _ _ hte)
    have hue := hte.int
    cases hx; cases hc
    -- the bytes
    have hcap : b.size ≤ (Question.appendCap b.size 0 e).cut (w.tape w.drawn (.appendCap b.size 0 e)) := Nat.le_add_right _ _
    generalize hcapeq : (Question.appendCap b.size 0 e).cut (w.tape w.drawn (.appendCap b.size 0 e)) = cap at hcap
    generalize hceq : (b.data.map fun b => Value.int .u8 b.toNat) ++ Array.replicate (cap - b.size) (.int .u8 0) = c
    have hb : b.data.size = b.size := rfl
    have hcs : c.size = cap := by
      rw [← hceq]
      simp [hb]; omega
    obtain ⟨E', g1, g2, g3⟩ := (h.drew (w.drawn + 1)).row (xs := b.data.toList.map fun c => .lit (.int .u8 c.toNat)) (c := c) (ex := false) e c.size (c.size + 1) (.inr (Nat.le_refl _))
      (by simp [hcs, hb]; omega) (by intro hh; cases hh) (fun j x hj => by
        simp only [List.getElem?_map, Option.map_eq_some_iff] at hj
        obtain ⟨q, hq, rfl⟩ := hj
        have hlt := (List.getElem?_eq_some_iff.1 hq).1
        refine ⟨.int .u8 q.toNat, ?_, .lit _⟩
        rw [← hceq]
        rw [Array.getElem?_append_left (by simpa using hlt), Array.getElem?_map]
        rw [Array.getElem?_toList] at hq
        rw [hq]
        rfl)
    refine ⟨E', .slice (some ⟨w.heap.size, 0, none⟩) b.size cap, _, ?_, g1, g2, ?_⟩
    · have hmain : (Conv.stringToBytes e b).run P w = .ok (.slice (some ⟨w.heap.size, 0, none⟩) b.size cap) { w with drawn := w.drawn + 1, heap := w.heap.push (.cells c e (c.size, c.size + 1)) } := by
        simp only [Conv.stringToBytes, Sem.run_bind, run_choose, Question.forced, Bool.false_eq_true, if_false, Result.andThen, newRow, run_newObj, Sem.run_pure, markStringish, run_shape, World.shape?, hcapeq, hceq, Array.getElem?_push_size, run_freeze]
        simp only [World.freeze, if_neg (by decide : ¬ (1 : Nat) = 0), modify_push, beq_self_eq_true, if_true]
      simp only [convert, Sem.run_bind, hts.underlying, htd.underlying, Result.andThen, hu]
      cases hsd : hts.d <;> simp only [hsd, Sem.run_bind, hte.underlying, Result.andThen, hue, hmain]
    · have := Rel.sl (E := E') (off := 0) (sz := 1) (len := b.size) (c := cap) (cap := none) g3 (fun k hk => by cases hk) hcap (by rw [hcs]; omega)
      simpa using this
  · cases hc
end
end Go.Proofs.Ytikcninaepoojaa.Ev
