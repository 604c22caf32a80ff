/- Numbers, strings and what is made of them: what the operations do to abstract values. -/
import Derived.Test.YtikcninaepoojaaEv2
import Derived.Laws.Strings
import Derived.IntWalk
import Derived.Lib.Strings
import GoSem.Dispatch
namespace Go.Proofs.Ytikcninaepoojaa.Ev
open Go.RowKit (Below)
set_option linter.unusedVariables false
set_option linter.unusedSimpArgs false

def evO (T : List AV) : Operand → AV
  | .tmp t => T.getD t (.lit undef)
  | .const v => .lit v
  | .global g => .lit (.pointer (some ⟨g, 0, none⟩))
  | .func f => .fn f []

theorem rel_evO {E : Env} {T : List AV} {a : Act} (h : RelL E T a.tmps) (x : Operand) : Rel E (evO T x) (a.eval x) := by
  cases x with
  | tmp t =>
    simp only [evO, Act.eval, List.getD_eq_getElem?_getD, Array.getD_eq_getD_getElem?]
    cases hx : T[t]? with
    | none =>
      have : a.tmps[t]? = none := by
        rw [Array.getElem?_eq_none_iff]
        rw [List.getElem?_eq_none_iff] at hx
        have := h.len; omega
      rw [this]; exact .lit _
    | some x =>
      have hlt := (List.getElem?_eq_some_iff.1 hx).1
      have hv : a.tmps[t]? = some (a.tmps[t]'(by have := h.len; omega)) := Array.getElem?_eq_getElem _
      rw [hv]
      exact h.at_ t x _ hx hv
  | const v => exact .lit _
  | global g => exact .lit _
  | func f => exact .fn rfl (fun i x v hx => by simp at hx)

theorem rel_evOs {E : Env} {T : List AV} {a : Act} (h : RelL E T a.tmps) (xs : Array Operand) : RelL E (xs.toList.map (evO T)) (xs.map a.eval) := by
  refine ⟨by simp, fun i x v hx hv => ?_⟩
  simp only [List.getElem?_map, Option.map_eq_some_iff] at hx
  simp only [Array.getElem?_map, Option.map_eq_some_iff] at hv
  obtain ⟨o, h1, rfl⟩ := hx
  obtain ⟨o', h2, rfl⟩ := hv
  have : o = o' := by rw [Array.getElem?_toList, h2] at h1; injection h1 with h1; exact h1.symm
  subst this
  exact rel_evO h o

/-! ### numbers -/
theorem wrap_i64_in {n : Int} (h0 : -9223372036854775808 ≤ n) (h1 : n ≤ 9223372036854775807) : IntKind.wrap .i64 n = n := by
  exact IntWalk.i64_in _ ⟨h0, h1⟩

theorem wr_eq (k : IntKind) (n : Int) : wr k n = k.wrap n := by
  cases k <;> try rfl
  simp only [wr]
  split
  · rename_i m
    cases hb : Nat.ble m 9223372036854775807 with
    | false => exact cond_false _ _
    | true =>
      have := Nat.le_of_ble_eq_true hb
      rw [wrap_i64_in (n := Int.ofNat m) (by rw [Int.ofNat_eq_natCast]; omega) (by rw [Int.ofNat_eq_natCast]; omega)]
      exact cond_true _ _
  · rename_i m
    cases hb : Nat.ble m 9223372036854775807 with
    | false => exact cond_false _ _
    | true =>
      have := Nat.le_of_ble_eq_true hb
      have e : Int.negSucc m = -((m : Int) + 1) := Int.negSucc_eq m
      rw [wrap_i64_in (n := Int.negSucc m) (by rw [e]; omega) (by rw [e]; omega)]
      exact cond_true _ _

theorem wr_in {n : Int} (h0 : -9223372036854775808 ≤ n) (h1 : n ≤ 9223372036854775807) : wr .i64 n = n := by rw [wr_eq, wrap_i64_in h0 h1]

def sbin (op : BinOp) : Value → Value → Option Value
  | .int k a, .int k' b =>
    match op with
    | .shl => bif decide (b < 0) then none else some (.int k (wr k (a * 2 ^ (min b.toNat k.bits))))
    | .shr => bif decide (b < 0) then none else some (.int k (a.fdiv (2 ^ (min b.toNat k.bits))))
    | op => bif decide (k = k') then
        match op with
        | .add => some (.int k (wr k (a + b)))
        | .sub => some (.int k (wr k (a - b)))
        | .mul => some (.int k (wr k (a * b)))
        | .quo => bif decide (b = 0) then none else some (.int k (wr k (a.tdiv b)))
        | .rem => bif decide (b = 0) then none else some (.int k (a.tmod b))
        | .and => some (.int k (wr k (BitVec.ofInt k.bits a &&& BitVec.ofInt k.bits b).toNat))
        | .or => some (.int k (wr k (BitVec.ofInt k.bits a ||| BitVec.ofInt k.bits b).toNat))
        | .xor => some (.int k (wr k (BitVec.ofInt k.bits a ^^^ BitVec.ofInt k.bits b).toNat))
        | .eql => some (.bool (decide (a = b)))
        | .neq => some (.bool (!decide (a = b)))
        | .lss => some (.bool (decide (a < b)))
        | .leq => some (.bool (decide (a ≤ b)))
        | .gtr => some (.bool (decide (a > b)))
        | .geq => some (.bool (decide (a ≥ b)))
        | _ => none
      else none
  | .string x, .string y =>
    match op with
    | .add => bif Nat.ble (x.data.size + y.data.size) 9223372036854775807 then some (.string ⟨x.data ++ y.data⟩) else none
    | .eql => some (.bool (beqS x y))
    | .neq => some (.bool (!beqS x y))
    | .lss => some (.bool (Op.bytesLess x.data.toList y.data.toList))
    | _ => none
  | _, _ => none

theorem append_bytes (x y : ByteArray) : x ++ y = ⟨x.data ++ y.data⟩ := by
  have : (x ++ y).data = x.data ++ y.data := ByteArray.data_append
  cases h : x ++ y
  rw [h] at this; simp at this; rw [this]

theorem eqGuard_plain {P : Program} {op : BinOp} {t : TypeId} {x y : Operand} {a b : Value} {w : World} (h : match a, b with | .nilIface, .nilIface => False | .agg _, .agg _ => False | _, _ => True) :
    (eqGuard op t x y a b).run P w = .ok () w := by
  unfold eqGuard
  cases op <;> first | rfl | (cases a <;> cases b <;> first | rfl | exact h.elim)

theorem sbin_ok {P : Program} {op : BinOp} {x y u : Value} (h : sbin op x y = some u) (t : TypeId) (ox oy : Operand) (w : World) :
    (do eqGuard op t ox oy x y; binOp op t x y : Sem Value).run P w = .ok u w := by
  simp only [Sem.run_bind]
  unfold sbin at h
  split at h
  · rename_i k a k' b
    rw [eqGuard_plain (by trivial)]
    simp only [Result.andThen]
    cases op
    case shl =>
      cases hb : decide (b < 0) <;> simp only [hb, cond_true, cond_false] at h <;> cases h
      simp at hb
      simp [binOp, Op.shift, show ¬ b < 0 by omega, wr_eq]
    case shr =>
      cases hb : decide (b < 0) <;> simp only [hb, cond_true, cond_false] at h <;> cases h
      simp at hb
      simp [binOp, Op.shift, show ¬ b < 0 by omega, wr_eq]
    case andNot => cases hk : decide (k = k') <;> simp only [hk, cond_true, cond_false] at h <;> cases h
    all_goals
      cases hk : decide (k = k') <;> simp only [hk, cond_true, cond_false] at h <;> try (cases h)
      simp only [decide_eq_true_eq] at hk
      try subst hk
    all_goals
      first
      | (simp [binOp, Op.intArith, Op.intBits, Op.intCmp, wr_eq]; done)
      | (cases hb : decide (b = 0) <;> simp only [hb, cond_true, cond_false] at h <;> cases h
         simp only [decide_eq_false_iff_not] at hb
         simp [binOp, Op.intDiv, hb, wr_eq]
         done)
      | (by_cases e : a = b
         · simp [binOp, Op.intCmp, e]
         · simp [binOp, Op.intCmp, e])
  · rename_i x y
    rw [eqGuard_plain (by trivial)]
    simp only [Result.andThen]
    cases op <;> simp only at h <;> try (cases h)
    case add =>
      cases hb : Nat.ble (x.data.size + y.data.size) 9223372036854775807 <;> simp only [hb, cond_true, cond_false] at h <;> cases h
      have hb := Nat.le_of_ble_eq_true hb
      have hs : ∀ z : ByteArray, z.size = z.data.size := fun z => rfl
      have : ¬ (((x.size + y.size : Nat) : Int) > IntKind.i64.max) := by
        have : IntKind.i64.max = 9223372036854775807 := by simp [IntKind.max, IntKind.signed, IntKind.bits]
        rw [this, hs, hs]; omega
      simp only [binOp, Op.stringOp, this, if_false, append_bytes, Sem.run_pure]
    all_goals simp [binOp, Op.stringOp, ByteArray.toList_eq, beqS]
  · cases h

def sun (op : UnOp) : Value → Option Value
  | .int k n => match op with
    | .neg => some (.int k (wr k (0 - n)))
    | _ => none
  | .bool b => match op with
    | .not => some (.bool (!b))
    | _ => none
  | _ => none

theorem sun_ok {P : Program} {op : UnOp} {x u : Value} (h : sun op x = some u) (w : World) : (Op.unary op x).run P w = .ok u w := by
  unfold sun at h
  split at h
  · cases op <;> simp only at h <;> cases h; simp [Op.unary, Op.intArith, wr_eq]
  · cases op <;> simp only at h <;> cases h; simp [Op.unary]
  · cases h

/-! ### where letters stand -/
def toI : AV → Option (IntKind × IExp)
  | .lit (.int k n) => some (k, .num n)
  | .sy k e => some (k, e)
  | _ => none

theorem toI_ok {E : Env} {x : AV} {v : Value} {k : IntKind} {e : IExp} (h : Rel E x v) (hx : toI x = some (k, e)) : v = .int k (e.eval E.σ) := by
  cases h <;> simp [toI] at hx
  · cases v <;> simp [toI] at hx
    obtain ⟨rfl, rfl⟩ := hx
    rfl
  · obtain ⟨rfl, rfl⟩ := hx
    simp_all

def toS : AV → Option SExp
  | .lit (.string s) => some (.lit s)
  | .ss i => some (.var i)
  | _ => none

theorem toS_ok {E : Env} {x : AV} {v : Value} {e : SExp} (h : Rel E x v) (hx : toS x = some e) : v = .string (e.eval E.σ) := by
  cases h <;> simp [toS] at hx
  · cases v <;> simp [toS] at hx
    subst hx
    rfl
  · subst hx
    simp_all [SExp.eval]

/-- An operation on numbers, on strings that letters stand for. -/
def symA (op : BinOp) (x y : AV) : Option AV :=
  match toI x, toI y with
  | some (k, a), some (k', b) => bif decide (k = k') then
      match op with
      | .add => some (.sy k (.bin .add k a b))
      | .sub => some (.sy k (.bin .sub k a b))
      | .mul => some (.sy k (.bin .mul k a b))
      | .quo => match b with
        | .num n => bif decide (n = 0) then none else some (.sy k (.bin .quo k a b))
        | _ => none
      | .rem => match b with
        | .num n => bif decide (n = 0) then none else some (.sy k (.bin .rem k a b))
        | _ => none
      | .and => some (.sy k (.bin .and k a b))
      | .shl => match b with
        | .num n => bif decide (n < 0) then none else some (.sy k (.bin .shl k a b))
        | _ => none
      | .shr => match b with
        | .num n => bif decide (n < 0) then none else some (.sy k (.bin .shr k a b))
        | _ => none
      | .eql => some (.sb (.cmp .eql a b))
      | .neq => some (.sb (.not (.cmp .eql a b)))
      | .lss => some (.sb (.cmp .lss a b))
      | .leq => some (.sb (.not (.cmp .lss b a)))
      | .gtr => some (.sb (.cmp .lss b a))
      | .geq => some (.sb (.not (.cmp .lss a b)))
      | _ => none
    else none
  | _, _ => match toS x, toS y with
    | some a, some b => match op with
      | .eql => some (.sb (.seq a b))
      | .neq => some (.sb (.not (.seq a b)))
      | _ => none
    | _, _ => none

theorem symA_ok {P : Program} {E : Env} {op : BinOp} {x y r : AV} {vx vy : Value} (hx : Rel E x vx) (hy : Rel E y vy) (h : symA op x y = some r) (t : TypeId) (ox oy : Operand) (w : World) :
    ∃ u, (do eqGuard op t ox oy vx vy; binOp op t vx vy : Sem Value).run P w = .ok u w ∧ Rel E r u := by
  unfold symA at h
  split at h
  · rename_i k a k' b h1 h2
    have e1 := toI_ok hx h1
    have e2 := toI_ok hy h2
    subst e1 e2
    cases hk : decide (k = k') with
    | false => simp only [hk, cond_false] at h; cases h
    | true =>
      simp only [hk, cond_true] at h
      simp only [decide_eq_true_eq] at hk
      subst hk
      have go : ∀ {u : Value}, sbin op (.int k (a.eval E.σ)) (.int k (b.eval E.σ)) = some u → Rel E r u → ∃ u, (do eqGuard op t ox oy (.int k (a.eval E.σ)) (.int k (b.eval E.σ)); binOp op t (.int k (a.eval E.σ)) (.int k (b.eval E.σ)) : Sem Value).run P w = .ok u w ∧ Rel E r u :=
        fun hs hr => ⟨_, sbin_ok hs t ox oy w, hr⟩
      cases op <;> simp only at h
      case quo =>
        split at h
        · rename_i n
          cases hn : decide (n = 0) <;> simp only [hn, cond_true, cond_false] at h <;> cases h
          simp only [decide_eq_false_iff_not] at hn
          exact go (by simp [sbin, IExp.eval, iop, hn]) (.sy rfl)
        · cases h
      case rem =>
        split at h
        · rename_i n
          cases hn : decide (n = 0) <;> simp only [hn, cond_true, cond_false] at h <;> cases h
          simp only [decide_eq_false_iff_not] at hn
          exact go (by simp [sbin, IExp.eval, iop, hn]) (.sy rfl)
        · cases h
      case shl =>
        split at h
        · rename_i n
          cases hn : decide (n < 0) <;> simp only [hn, cond_true, cond_false] at h <;> cases h
          simp only [decide_eq_false_iff_not] at hn
          exact go (by simp [sbin, IExp.eval, iop, hn]) (.sy rfl)
        · cases h
      case shr =>
        split at h
        · rename_i n
          cases hn : decide (n < 0) <;> simp only [hn, cond_true, cond_false] at h <;> cases h
          simp only [decide_eq_false_iff_not] at hn
          exact go (by simp [sbin, IExp.eval, iop, hn]) (.sy rfl)
        · cases h
      case leq =>
        cases h
        refine go (u := .bool (decide (a.eval E.σ ≤ b.eval E.σ))) (by simp only [sbin, decide_true, cond_true]) (.sb ?_)
        simp only [BExp.eval, icmp]
        by_cases h : b.eval E.σ < a.eval E.σ
        · simp [h, show ¬ a.eval E.σ ≤ b.eval E.σ by omega]
        · simp [h, show a.eval E.σ ≤ b.eval E.σ by omega]
      case geq =>
        cases h
        refine go (u := .bool (decide (a.eval E.σ ≥ b.eval E.σ))) (by simp only [sbin, decide_true, cond_true]) (.sb ?_)
        simp only [BExp.eval, icmp]
        by_cases h : a.eval E.σ < b.eval E.σ
        · simp [h, show ¬ b.eval E.σ ≤ a.eval E.σ by omega]
        · simp [h, show b.eval E.σ ≤ a.eval E.σ by omega]
      case eql => cases h; exact go (by simp only [sbin, decide_true, cond_true, BExp.eval, icmp]) (.sb rfl)
      case neq => cases h; exact go (by simp only [sbin, decide_true, cond_true, BExp.eval, icmp]) (.sb rfl)
      case lss => cases h; exact go (by simp only [sbin, decide_true, cond_true, BExp.eval, icmp]) (.sb rfl)
      case gtr => cases h; exact go (by simp only [sbin, decide_true, cond_true, BExp.eval, icmp]) (.sb rfl)
      all_goals first
        | (cases h; done)
        | (cases h; exact go (by simp only [sbin, decide_true, cond_true, IExp.eval, iop]) (.sy rfl))
  · split at h
    · rename_i a b h1 h2
      have e1 := toS_ok hx h1
      have e2 := toS_ok hy h2
      subst e1 e2
      cases op <;> simp only at h <;> cases h
      · exact ⟨_, sbin_ok (by simp only [sbin, BExp.eval]) t ox oy w, .sb rfl⟩
      · exact ⟨_, sbin_ok (by simp only [sbin, BExp.eval]) t ox oy w, .sb rfl⟩
    · cases h

/-! ### what is known of letters -/
def BinOp.beq' : BinOp → BinOp → Bool
  | a, b => decide (a = b)

def IExp.beq : IExp → IExp → Bool
  | .var i, .var j => Nat.beq i j
  | .num a, .num b => decide (a = b)
  | .bin o k a b, .bin o' k' a' b' => decide (o = o') && (decide (k = k') && (IExp.beq a a' && IExp.beq b b'))
  | .conv k a, .conv k' a' => decide (k = k') && IExp.beq a a'
  | .slen i, .slen j => Nat.beq i j
  | .mn a b, .mn a' b' => IExp.beq a a' && IExp.beq b b'
  | .mx a b, .mx a' b' => IExp.beq a a' && IExp.beq b b'
  | _, _ => false

theorem IExp.beq_eq : ∀ {x y : IExp}, IExp.beq x y = true → x = y := by
  intro x
  induction x with
  | var i => intro y h; cases y <;> simp [IExp.beq] at h; rw [h]
  | num n => intro y h; cases y <;> simp [IExp.beq] at h; rw [h]
  | bin o k a b iha ihb => intro y h; cases y <;> simp [IExp.beq] at h; obtain ⟨rfl, rfl, h1, h2⟩ := h; rw [iha h1, ihb h2]
  | conv k a iha => intro y h; cases y <;> simp [IExp.beq] at h; obtain ⟨rfl, h1⟩ := h; rw [iha h1]
  | slen i => intro y h; cases y <;> simp [IExp.beq] at h; rw [h]
  | mn a b iha ihb => intro y h; cases y <;> simp [IExp.beq] at h; rw [iha h.1, ihb h.2]
  | mx a b iha ihb => intro y h; cases y <;> simp [IExp.beq] at h; rw [iha h.1, ihb h.2]

theorem beqS_eq {a b : ByteArray} (h : beqS a b = true) : a = b := by
  unfold beqS at h
  have h := eq_of_beq h
  cases a; cases b
  simp only at h
  congr 1
  exact Array.ext' h

def SExp.beq : SExp → SExp → Bool
  | .var i, .var j => Nat.beq i j
  | .lit a, .lit b => beqS a b
  | _, _ => false

theorem SExp.beq_eq {x y : SExp} (h : SExp.beq x y = true) : x = y := by
  cases x <;> cases y <;> simp only [SExp.beq, Bool.false_eq_true] at h
  · rw [Nat.eq_of_beq_eq_true h]
  · rw [beqS_eq h]

def BExp.beq : BExp → BExp → Bool
  | .lit a, .lit b => a == b
  | .var i, .var j => Nat.beq i j
  | .cmp o a b, .cmp o' a' b' => decide (o = o') && (IExp.beq a a' && IExp.beq b b')
  | .seq a b, .seq a' b' => SExp.beq a a' && SExp.beq b b'
  | .not a, .not b => BExp.beq a b
  | .and a b, .and a' b' => BExp.beq a a' && BExp.beq b b'
  | _, _ => false

theorem BExp.beq_eq : ∀ {x y : BExp}, BExp.beq x y = true → x = y := by
  intro x
  induction x with
  | lit b => intro y h; cases y <;> simp [BExp.beq] at h; rw [h]
  | var i => intro y h; cases y <;> simp [BExp.beq] at h; rw [h]
  | cmp o a b => intro y h; cases y <;> simp [BExp.beq] at h; obtain ⟨rfl, h1, h2⟩ := h; rw [IExp.beq_eq h1, IExp.beq_eq h2]
  | seq a b => intro y h; cases y <;> simp [BExp.beq] at h; rw [SExp.beq_eq h.1, SExp.beq_eq h.2]
  | not a ih => intro y h; cases y <;> simp [BExp.beq] at h; rw [ih h]
  | and a b iha ihb => intro y h; cases y <;> simp [BExp.beq] at h; rw [iha h.1, ihb h.2]

/-- Things that are known: each holds, or does not. -/
def Known (σ : Sig) (as : List (BExp × Bool)) : Prop := ∀ p ∈ as, p.1.eval σ = p.2

def look1 : List (BExp × Bool) → BExp → Option Bool
  | [], _ => none
  | (e, t) :: r, x => bif BExp.beq e x then some t else look1 r x

/-- What is known by itself. -/
def lookC (op : BinOp) (a b : IExp) : Option Bool :=
  match a, b with
  | .num a, .num b => some (icmp op a b)
  | a, b => match op with
    | .eql => bif IExp.beq a b then some true else none
    | .lss => bif IExp.beq a b then some false else none
    | _ => none

theorem lookC_ok {σ : Sig} {op : BinOp} {a b : IExp} {t : Bool} (h : lookC op a b = some t) : icmp op (a.eval σ) (b.eval σ) = t := by
  unfold lookC at h
  split at h
  · cases h; rfl
  · split at h
    · cases hb : IExp.beq a b with
      | true => simp only [hb, cond_true] at h; cases h; rw [IExp.beq_eq hb]; simp [icmp]
      | false => simp only [hb, cond_false] at h; cases h
    · cases hb : IExp.beq a b with
      | true => simp only [hb, cond_true] at h; cases h; rw [IExp.beq_eq hb]; simp [icmp]
      | false => simp only [hb, cond_false] at h; cases h
    · cases h

def look (as : List (BExp × Bool)) : BExp → Option Bool
  | .lit b => some b
  | .not a => match look as a with
    | some t => some (!t)
    | none => none
  | .and a b => match look as a with
    | some true => look as b
    | some false => some false
    | none => none
  | .cmp op a b => match lookC op a b with
    | some t => some t
    | none => look1 as (.cmp op a b)
  | .seq a b => bif SExp.beq a b then some true else look1 as (.seq a b)
  | .var i => look1 as (.var i)

theorem look1_ok {σ : Sig} : ∀ {as : List (BExp × Bool)}, Known σ as → ∀ {x : BExp} {t : Bool}, look1 as x = some t → x.eval σ = t
  | [], _, x, t, h => by simp [look1] at h
  | (e, s) :: r, hk, x, t, h => by
    simp only [look1] at h
    cases hb : BExp.beq e x with
    | true =>
      simp only [hb, cond_true, Option.some.injEq] at h
      subst h
      rw [← BExp.beq_eq hb]
      exact hk (e, s) (List.mem_cons_self ..)
    | false =>
      simp only [hb, cond_false] at h
      exact look1_ok (fun p hp => hk p (List.mem_cons_of_mem _ hp)) h

theorem look_ok {σ : Sig} {as : List (BExp × Bool)} (hk : Known σ as) : ∀ {x : BExp} {t : Bool}, look as x = some t → x.eval σ = t := by
  intro x
  induction x with
  | lit b => intro t h; simp [look] at h; exact h
  | var i => intro t h; exact look1_ok hk h
  | cmp o a b =>
    intro t h
    simp only [look] at h
    split at h
    · rename_i hc; cases h; exact lookC_ok hc
    · exact look1_ok hk h
  | seq a b =>
    intro t h
    simp only [look] at h
    cases hb : SExp.beq a b with
    | true => simp only [hb, cond_true] at h; cases h; rw [SExp.beq_eq hb]; simp [BExp.eval, beqS]
    | false => simp only [hb, cond_false] at h; exact look1_ok hk h
  | not a ih =>
    intro t h
    simp only [look] at h
    split at h
    · rename_i s hs; cases h; simp [BExp.eval, ih hs]
    · cases h
  | and a b iha ihb =>
    intro t h
    simp only [look] at h
    split at h
    · rename_i hs; simp [BExp.eval, iha hs, ihb h]
    · rename_i hs; cases h; simp [BExp.eval, iha hs]
    · cases h

end Go.Proofs.Ytikcninaepoojaa.Ev
