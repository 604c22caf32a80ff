/- The abstract values, the abstract heap, and how they stand to a world of the model. -/
import Derived.Calls
import Derived.Orders
import Derived.Below
namespace Go.Proofs.Ytikcninaepoojaa.Ev
open Go.RowKit (Below)
set_option linter.unusedVariables false
set_option linter.unusedSimpArgs false

/-! ### tries -/
inductive Tr (α : Type) where
  | leaf
  | node (v : Option α) (l r : Tr α)

namespace Tr
variable {α : Type}
def get : Tr α → Nat → Option α
  | .leaf, _ => none
  | .node v l r, k => bif Nat.beq k 0 then v else bif Nat.beq ((k - 1) % 2) 0 then l.get ((k - 1) / 2) else r.get ((k - 1) / 2)

def top : Tr α → Option α
  | .leaf => none
  | .node v _ _ => v
def left : Tr α → Tr α
  | .leaf => .leaf
  | .node _ l _ => l
def right : Tr α → Tr α
  | .leaf => .leaf
  | .node _ _ r => r

def setF : Nat → Tr α → Nat → Option α → Tr α
  | 0, t, _, _ => t
  | f + 1, t, k, v =>
    bif Nat.beq k 0 then .node v t.left t.right
    else bif Nat.beq ((k - 1) % 2) 0 then .node t.top (setF f t.left ((k - 1) / 2) v) t.right
    else .node t.top t.left (setF f t.right ((k - 1) / 2) v)

def set (t : Tr α) (k : Nat) (v : Option α) : Tr α := setF (k + 1) t k v

theorem get_eq (t : Tr α) (k : Nat) : t.get k = if k = 0 then t.top else if (k - 1) % 2 = 0 then t.left.get ((k - 1) / 2) else t.right.get ((k - 1) / 2) := by
  cases t with
  | leaf => simp [get, top, left, right]
  | node v l r =>
    have hb : ∀ a b : Nat, Nat.beq a b = decide (a = b) := fun a b => by
      by_cases h : a = b
      · subst h; simp
      · have : Nat.beq a b = false := by cases hh : Nat.beq a b with | false => rfl | true => exact absurd (Nat.eq_of_beq_eq_true hh) h
        simp [this, h]
    simp only [get, top, left, right, hb, cond_eq_ite, decide_eq_true_eq]

theorem get_setF : ∀ (f : Nat) (t : Tr α) (k : Nat) (v : Option α), k < f → ∀ j, (setF f t k v).get j = if j = k then v else t.get j := by
  have hb : ∀ a b : Nat, Nat.beq a b = decide (a = b) := fun a b => by
    by_cases h : a = b
    · subst h; simp
    · have : Nat.beq a b = false := by cases hh : Nat.beq a b with | false => rfl | true => exact absurd (Nat.eq_of_beq_eq_true hh) h
      simp [this, h]
  intro f
  induction f with
  | zero => intro t k v h; omega
  | succ f ih =>
    intro t k v h j
    simp only [setF, hb, cond_eq_ite, decide_eq_true_eq]
    by_cases hk : k = 0
    · subst hk
      simp only [if_true]
      rw [get_eq, get_eq t]
      by_cases hj : j = 0
      · subst hj; simp [top]
      · simp [hj, left, right]
    · simp only [hk, if_false]
      by_cases hp : (k - 1) % 2 = 0
      · simp only [hp, if_true]
        rw [get_eq, get_eq t j]
        by_cases hj : j = 0
        · subst hj; rw [if_pos rfl, if_pos rfl, if_neg (by omega)]; simp [top]
        · simp only [hj, if_false, left, right]
          by_cases hq : (j - 1) % 2 = 0
          · simp only [hq, if_true]
            rw [ih _ _ _ (by omega)]
            by_cases e : j = k
            · subst e; simp
            · rw [if_neg e, if_neg (by omega)]
          · simp only [hq, if_false]
            rw [if_neg (by rintro rfl; exact hq hp)]
      · simp only [hp, if_false]
        rw [get_eq, get_eq t j]
        by_cases hj : j = 0
        · subst hj; rw [if_pos rfl, if_pos rfl, if_neg (by omega)]; simp [top]
        · simp only [hj, if_false, left, right]
          by_cases hq : (j - 1) % 2 = 0
          · simp only [hq, if_true]
            rw [if_neg (by rintro rfl; exact hp hq)]
          · simp only [hq, if_false]
            rw [ih _ _ _ (by omega)]
            by_cases e : j = k
            · subst e; simp
            · rw [if_neg e, if_neg (by omega)]

theorem get_set (t : Tr α) (k : Nat) (v : Option α) (j : Nat) : (t.set k v).get j = if j = k then v else t.get j := get_setF _ _ _ _ (Nat.lt_succ_self k) j
end Tr

/-! ### expressions -/
def wr (k : IntKind) (n : Int) : Int :=
  match k with
  | .i64 => match n with
    | .ofNat m => bif Nat.ble m 9223372036854775807 then n else IntKind.wrap .i64 n
    | .negSucc m => bif Nat.ble m 9223372036854775807 then n else IntKind.wrap .i64 n
  | k => IntKind.wrap k n

def iop (op : BinOp) (k : IntKind) (a b : Int) : Int :=
  match op with
  | .add => wr k (a + b)
  | .sub => wr k (a - b)
  | .mul => wr k (a * b)
  | .quo => wr k (a.tdiv b)
  | .rem => a.tmod b
  | .and => wr k (BitVec.ofInt k.bits a &&& BitVec.ofInt k.bits b).toNat
  | .or => wr k (BitVec.ofInt k.bits a ||| BitVec.ofInt k.bits b).toNat
  | .xor => wr k (BitVec.ofInt k.bits a ^^^ BitVec.ofInt k.bits b).toNat
  | .shl => wr k (a * 2 ^ (min b.toNat k.bits))
  | .shr => a.fdiv (2 ^ (min b.toNat k.bits))
  | _ => 0

def icmp (op : BinOp) (a b : Int) : Bool :=
  match op with
  | .eql => decide (a = b)
  | .neq => !decide (a = b)
  | .lss => decide (a < b)
  | .leq => decide (a ≤ b)
  | .gtr => decide (a > b)
  | .geq => decide (a ≥ b)
  | _ => false

/-- What letters stand for. -/
structure Sig where
  i : Nat → Int
  b : Nat → Bool
  s : Nat → ByteArray

inductive IExp where
  | var (i : Nat)
  | num (n : Int)
  | bin (op : BinOp) (k : IntKind) (a b : IExp)
  | conv (k : IntKind) (a : IExp)
  | slen (i : Nat)
  /-- the lesser, the greater: the second where it is so by itself -/
  | mn (a b : IExp)
  | mx (a b : IExp)
  deriving Inhabited

def IExp.eval (σ : Sig) : IExp → Int
  | .var i => σ.i i
  | .num n => n
  | .bin op k a b => iop op k (a.eval σ) (b.eval σ)
  | .conv k a => wr k (a.eval σ)
  | .slen i => (σ.s i).data.size
  | .mn a b => if b.eval σ < a.eval σ then b.eval σ else a.eval σ
  | .mx a b => if b.eval σ > a.eval σ then b.eval σ else a.eval σ

inductive SExp where
  | var (i : Nat)
  | lit (s : ByteArray)

def SExp.eval (σ : Sig) : SExp → ByteArray
  | .var i => σ.s i
  | .lit s => s

inductive BExp where
  | lit (b : Bool)
  | var (i : Nat)
  | cmp (op : BinOp) (a b : IExp)
  | seq (a b : SExp)
  | not (a : BExp)
  | and (a b : BExp)
  deriving Inhabited

def beqS (x y : ByteArray) : Bool := x.data.toList == y.data.toList

def BExp.eval (σ : Sig) : BExp → Bool
  | .lit b => b
  | .var i => σ.b i
  | .cmp op a b => icmp op (a.eval σ) (b.eval σ)
  | .seq a b => beqS (a.eval σ) (b.eval σ)
  | .not a => !a.eval σ
  | .and a b => a.eval σ && b.eval σ

/-! ### values and blocks -/
inductive AV where
  /-- a value as it stands (no block of the abstract heap is named in it) -/
  | lit (v : Value)
  /-- a pointer into a block of the abstract heap -/
  | ptr (id off : Nat)
  /-- a slice of elements of sz cells over a block of the abstract heap; its capacity, where it is known -/
  | sl (id off sz len : Nat) (cap : Option Nat)
  /-- a slice over memory that is never written again: its elements, each as its cells -/
  | imm (sz : Nat) (xs : List (List AV))
  /-- an empty slice without room -/
  | emp
  /-- an empty slice: without room, or at that place of a block, with some room -/
  | se (id off sz : Nat)
  /-- a pointer to memory that is never written again: the cells from there on -/
  | ip (cells : List AV)
  | agg (cells : List AV)
  | tup (vs : List AV)
  | fn (f : Nat) (caps : List AV)
  | mp (id : Nat)
  /-- what a loop over a function hands to that function -/
  | yl (id : Nat)
  /-- whatever -/
  | any
  /-- a number, a bool, a string that letters stand for -/
  | sy (k : IntKind) (e : IExp)
  | sb (e : BExp)
  | ss (i : Nat)
  deriving Inhabited

/-- A loop over a function: the slots that its rounds begin with, what is handed to which slot, the code. -/
structure LRec where
  T : List AV
  ps : Array Tmp
  assign : Code
  body : Code

inductive Blk where
  /-- cells; exact: there are no more of them in the block -/
  | cells (cs : List AV) (exact : Bool)
  | map (es : List (AV × AV))
  | loop (r : LRec) (st : LoopState) (pend : Option Code)

structure Hp where
  n : Nat
  t : Tr Blk

namespace Hp
def get (H : Hp) (id : Nat) : Option Blk := H.t.get id
def set (H : Hp) (id : Nat) (b : Option Blk) : Hp := ⟨H.n, H.t.set id b⟩
def new (H : Hp) (b : Blk) : Hp := ⟨H.n + 1, H.t.set H.n (some b)⟩
def empty : Hp := ⟨0, .leaf⟩
theorem get_set (H : Hp) (id : Nat) (b : Option Blk) (j : Nat) : (H.set id b).get j = if j = id then b else H.get j := Tr.get_set _ _ _ _
theorem get_new (H : Hp) (b : Blk) (j : Nat) : (H.new b).get j = if j = H.n then some b else H.get j := Tr.get_set _ _ _ _
@[simp] theorem n_set (H : Hp) (id : Nat) (b : Option Blk) : (H.set id b).n = H.n := rfl
@[simp] theorem n_new (H : Hp) (b : Blk) : (H.new b).n = H.n + 1 := rfl
end Hp

/-- Where the blocks of the abstract heap lie (block, first cell, how many cells), and the blocks of the world that are never written again. -/
structure Env where
  ρ : Nat → Option (Nat × Nat × Nat)
  ro : Nat → Option Obj
  σ : Sig

def Env.cell (E : Env) (b o : Nat) : Option Value :=
  match E.ro b with
  | some (.cells c _ _) => c[o]?
  | _ => none

structure Env.Ext (E E' : Env) : Prop where
  ρ : ∀ id p, E.ρ id = some p → E'.ρ id = some p
  ro : ∀ b o, E.ro b = some o → E'.ro b = some o
  σ : E'.σ = E.σ

theorem Env.Ext.refl (E : Env) : E.Ext E := ⟨fun _ _ h => h, fun _ _ h => h, rfl⟩
theorem Env.Ext.trans {E E' E'' : Env} (h : E.Ext E') (h' : E'.Ext E'') : E.Ext E'' := ⟨fun _ _ k => h'.ρ _ _ (h.ρ _ _ k), fun _ _ k => h'.ro _ _ (h.ro _ _ k), h'.σ.trans h.σ⟩
theorem Env.Ext.cell {E E' : Env} (h : E.Ext E') {b o : Nat} {v : Value} (k : E.cell b o = some v) : E'.cell b o = some v := by
  unfold Env.cell at *
  cases hb : E.ro b with
  | none => simp [hb] at k
  | some x => rw [hb] at k; rw [h.ro _ _ hb]; exact k

inductive Rel (E : Env) : AV → Value → Prop where
  | lit (v : Value) : Rel E (.lit v) v
  | ptr {id off b o n : Nat} (h : E.ρ id = some (b, o, n)) : Rel E (.ptr id off) (.pointer (some ⟨b, o + off, none⟩))
  | sl {id off sz len b o n c : Nat} {cap : Option Nat} (h : E.ρ id = some (b, o, n)) (hc : ∀ k, cap = some k → c = k) (hl : len ≤ c) (hn : off + c * sz ≤ n) :
      Rel E (.sl id off sz len cap) (.slice (some ⟨b, o + off, none⟩) len c)
  | emp {a : Option Addr} : Rel E .emp (.slice a 0 0)
  | seE {id off sz : Nat} {a : Option Addr} : Rel E (.se id off sz) (.slice a 0 0)
  | seS {id off sz b o n c : Nat} (h : E.ρ id = some (b, o, n)) (hn : off + c * sz ≤ n) : Rel E (.se id off sz) (.slice (some ⟨b, o + off, none⟩) 0 c)
  | immE {sz c : Nat} {a : Option Addr} : Rel E (.imm sz []) (.slice a 0 c)
  | imm {sz c b o n : Nat} {xs : List (List AV)} (val : Nat → Nat → Value) (hn : n = xs.length) (hl : n ≤ c) (hsz : ∀ (i : Nat) (cs : List AV), xs[i]? = some cs → cs.length = sz)
      (hro : ∀ (i : Nat) (cs : List AV) (j : Nat) (x : AV), xs[i]? = some cs → cs[j]? = some x → E.cell b (o + (i * sz + j)) = some (val i j))
      (hrel : ∀ (i : Nat) (cs : List AV) (j : Nat) (x : AV), xs[i]? = some cs → cs[j]? = some x → Rel E x (val i j)) : Rel E (.imm sz xs) (.slice (some ⟨b, o, none⟩) n c)
  | ip {b o : Nat} {cs : List AV} (val : Nat → Value) (hro : ∀ (j : Nat) (x : AV), cs[j]? = some x → E.cell b (o + j) = some (val j))
      (hrel : ∀ (j : Nat) (x : AV), cs[j]? = some x → Rel E x (val j)) : Rel E (.ip cs) (.pointer (some ⟨b, o, none⟩))
  | agg {xs : List AV} {vs : Array Value} (hl : vs.size = xs.length) (h : ∀ (i : Nat) (x : AV) (v : Value), xs[i]? = some x → vs[i]? = some v → Rel E x v) : Rel E (.agg xs) (.agg vs)
  | tup {xs : List AV} {vs : Array Value} (hl : vs.size = xs.length) (h : ∀ (i : Nat) (x : AV) (v : Value), xs[i]? = some x → vs[i]? = some v → Rel E x v) : Rel E (.tup xs) (.tuple vs)
  | fn {f : Nat} {xs : List AV} {vs : Array Value} (hl : vs.size = xs.length) (h : ∀ (i : Nat) (x : AV) (v : Value), xs[i]? = some x → vs[i]? = some v → Rel E x v) : Rel E (.fn f xs) (.func (.func f) #[] vs)
  | mp {id b o n : Nat} (h : E.ρ id = some (b, o, n)) : Rel E (.mp id) (.map (some b))
  | yl {id b o n : Nat} (h : E.ρ id = some (b, o, n)) : Rel E (.yl id) (.func (.yield b) #[] #[])
  | any (v : Value) : Rel E .any v
  | sy {k : IntKind} {e : IExp} {n : Int} (h : e.eval E.σ = n) : Rel E (.sy k e) (.int k n)
  | sb {e : BExp} {b : Bool} (h : e.eval E.σ = b) : Rel E (.sb e) (.bool b)
  | ss {i : Nat} {s : ByteArray} (h : E.σ.s i = s) : Rel E (.ss i) (.string s)

theorem Rel.ext {E E' : Env} (hE : E.Ext E') {x : AV} {v : Value} (h : Rel E x v) : Rel E' x v := by
  induction h with
  | lit v => exact .lit v
  | ptr h => exact .ptr (hE.ρ _ _ h)
  | sl h hc hl hn => exact .sl (hE.ρ _ _ h) hc hl hn
  | emp => exact .emp
  | seE => exact .seE
  | seS h hn => exact .seS (hE.ρ _ _ h) hn
  | immE => exact .immE
  | imm val hn hl hsz hro hrel ih => exact .imm val hn hl hsz (fun i cs j x h1 h2 => hE.cell (hro i cs j x h1 h2)) ih
  | ip val hro hrel ih => exact .ip val (fun j x h => hE.cell (hro j x h)) ih
  | agg hl h ih => exact .agg hl ih
  | tup hl h ih => exact .tup hl ih
  | fn hl h ih => exact .fn hl ih
  | mp h => exact .mp (hE.ρ _ _ h)
  | yl h => exact .yl (hE.ρ _ _ h)
  | any v => exact .any v
  | sy h => exact .sy (by rw [hE.σ]; exact h)
  | sb h => exact .sb (by rw [hE.σ]; exact h)
  | ss h => exact .ss (by rw [hE.σ]; exact h)

/-- A list of abstract values against an array of values. -/
structure RelL (E : Env) (xs : List AV) (vs : Array Value) : Prop where
  len : vs.size = xs.length
  at_ : ∀ (i : Nat) (x : AV) (v : Value), xs[i]? = some x → vs[i]? = some v → Rel E x v

theorem RelL.ext {E E' : Env} (hE : E.Ext E') {xs : List AV} {vs : Array Value} (h : RelL E xs vs) : RelL E' xs vs := ⟨h.len, fun i x v a b => (h.at_ i x v a b).ext hE⟩

/-- What a block of the world holds of a block of the abstract heap. -/
def BlkOk (E : Env) (b o n : Nat) (k : Blk) (w : World) : Prop :=
  match k with
  | .cells cs ex => ∃ c ty lo hi, w.heap[b]? = some (.cells c ty (lo, hi)) ∧ c.size = o + n ∧ cs.length ≤ n ∧ (ex = true → cs.length = n) ∧ (hi ≤ lo ∨ c.size ≤ lo) ∧
      ∀ (j : Nat) (x : AV), cs[j]? = some x → ∃ v, c[o + j]? = some v ∧ Rel E x v
  | .map es => ∃ vs clock, w.heap[b]? = some (.map vs clock) ∧ vs.size = es.length ∧ ∀ (j : Nat) (p : AV × AV) (v : MapEntry), es[j]? = some p → vs[j]? = some v → Rel E p.1 v.key ∧ Rel E p.2 v.val
  | .loop r st pend => ∃ fn tmps D, w.heap[b]? = some (.loop ⟨st, pend, fn, tmps, r.ps, r.assign, r.body, D⟩) ∧ RelL E r.T tmps

/-- Where a call began: the world, which of its blocks are never written again, and blocks that stay as they are but of which nothing is told. -/
structure Base where
  w : World
  R : Nat → Prop
  F : Nat → Option Obj
  σ : Sig

structure St (B : Nat) (w0 : Base) (E : Env) (H : Hp) (w : World) : Prop where
  below : Below B w0.w w
  size : B ≤ w.heap.size
  ro : ∀ b o, E.ro b = some o → w.heap[b]? = some o
  dom : ∀ id, H.n ≤ id → E.ρ id = none
  hdom : ∀ id, H.n ≤ id → H.get id = none
  live : ∀ id k, H.get id = some k → ∃ b o n, E.ρ id = some (b, o, n) ∧ B ≤ b ∧ E.ro b = none ∧ BlkOk E b o n k w
  disj : ∀ i j k l, H.get i = some k → H.get j = some l → i ≠ j → ∀ p q, E.ρ i = some p → E.ρ j = some q → p.1 ≠ q.1
  rob : ∀ b o, E.ro b = some o → B ≤ b ∨ w0.R b
  fr : ∀ b o, w0.F b = some o → w.heap[b]? = some o ∧ E.ro b = none
  frl : ∀ i k, H.get i = some k → ∀ p, E.ρ i = some p → w0.F p.1 = none
  sig : E.σ = w0.σ

theorem BlkOk.ext {E E' : Env} (hE : E.Ext E') {b o n : Nat} {k : Blk} {w : World} (h : BlkOk E b o n k w) : BlkOk E' b o n k w := by
  cases k with
  | cells cs ex =>
    obtain ⟨c, ty, lo, hi, h1, h2, h3, h4, h5, h6⟩ := h
    exact ⟨c, ty, lo, hi, h1, h2, h3, h4, h5, fun j x hx => let ⟨v, hv, r⟩ := h6 j x hx; ⟨v, hv, r.ext hE⟩⟩
  | map =>
    obtain ⟨vs, clock, h1, h2, h3⟩ := h
    exact ⟨vs, clock, h1, h2, fun j p v hp hv => ⟨(h3 j p v hp hv).1.ext hE, (h3 j p v hp hv).2.ext hE⟩⟩
  | loop =>
    obtain ⟨fn, tmps, D, h1, h2⟩ := h
    exact ⟨fn, tmps, D, h1, h2.ext hE⟩

theorem BlkOk.heap {E : Env} {b o n : Nat} {k : Blk} {w w' : World} (h : BlkOk E b o n k w) (hw : w'.heap[b]? = w.heap[b]?) : BlkOk E b o n k w' := by
  cases k with
  | cells cs ex =>
    obtain ⟨c, ty, lo, hi, h1, h2⟩ := h
    exact ⟨c, ty, lo, hi, hw ▸ h1, h2⟩
  | map =>
    obtain ⟨vs, clock, h1, h2⟩ := h
    exact ⟨vs, clock, hw ▸ h1, h2⟩
  | loop =>
    obtain ⟨fn, tmps, D, h1, h2⟩ := h
    exact ⟨fn, tmps, D, hw ▸ h1, h2⟩

theorem BlkOk.lt {E : Env} {b o n : Nat} {k : Blk} {w : World} (h : BlkOk E b o n k w) : b < w.heap.size := by
  cases k with
  | cells cs ex =>
    obtain ⟨c, ty, lo, hi, h1, h2⟩ := h
    exact (Array.getElem?_eq_some_iff.1 h1).1
  | map =>
    obtain ⟨vs, clock, h1, h2⟩ := h
    exact (Array.getElem?_eq_some_iff.1 h1).1
  | loop =>
    obtain ⟨fn, tmps, D, h1, h2⟩ := h
    exact (Array.getElem?_eq_some_iff.1 h1).1

/-! ### how a state goes on -/
section
variable {B : Nat} {w0 : Base} {E : Env} {H : Hp} {w : World}

/-- a draw -/
theorem St.drew (h : St B w0 E H w) (k : Nat) : St B w0 E H { w with drawn := k } :=
  ⟨⟨h.below.os, h.below.tape, h.below.output, h.below.size, h.below.block⟩, h.size, h.ro, h.dom, h.hdom,
    fun id k hk => let ⟨b, o, n, e, hb, hr, ok⟩ := h.live id k hk; ⟨b, o, n, e, hb, hr, ok.heap rfl⟩, h.disj, h.rob, h.fr, h.frl, h.sig⟩

/-- a block is forgotten -/
theorem St.kill (h : St B w0 E H w) (id : Nat) : St B w0 E (H.set id none) w := by
  refine ⟨h.below, h.size, h.ro, h.dom, ?_, ?_, ?_, h.rob, h.fr, ?_, h.sig⟩
  · intro j hj; rw [Hp.get_set]; split
    · rfl
    · exact h.hdom j hj
  · intro j k hk; rw [Hp.get_set] at hk; split at hk
    · simp at hk
    · exact h.live j k hk
  · intro i j k l hi hj hne
    rw [Hp.get_set] at hi hj
    split at hi
    · simp at hi
    · split at hj
      · simp at hj
      · exact h.disj i j k l hi hj hne
  · intro i k hk; rw [Hp.get_set] at hk; split at hk
    · simp at hk
    · exact h.frl i k hk

def Env.put (E : Env) (id : Nat) (p : Nat × Nat × Nat) : Env := ⟨fun j => if j = id then some p else E.ρ j, E.ro, E.σ⟩

theorem Env.ext_put {E : Env} {id : Nat} {p : Nat × Nat × Nat} (h : E.ρ id = none) : E.Ext (E.put id p) :=
  ⟨fun j q hj => by
    simp only [Env.put]
    split
    · rename_i e; subst e; rw [h] at hj; cases hj
    · exact hj, fun _ _ h => h, rfl⟩

/-- a new block of the world, known to the abstract heap -/
theorem St.new (h : St B w0 E H w) (ob : Obj) (o n : Nat) (k : Blk) (hk : BlkOk (E.put H.n (w.heap.size, o, n)) w.heap.size o n k { w with heap := w.heap.push ob }) :
    E.Ext (E.put H.n (w.heap.size, o, n)) ∧ St B w0 (E.put H.n (w.heap.size, o, n)) (H.new k) { w with heap := w.heap.push ob } := by
  have hext : E.Ext (E.put H.n (w.heap.size, o, n)) := Env.ext_put (h.dom _ (Nat.le_refl _))
  have hold : ∀ b, b < w.heap.size → (w.heap.push ob)[b]? = w.heap[b]? := fun b hb => by rw [Array.getElem?_push, if_neg (by omega)]
  have hlt : ∀ b x, E.ro b = some x → b < w.heap.size := fun b x hx => (Array.getElem?_eq_some_iff.1 (h.ro b x hx)).1
  refine ⟨hext, ?_, ?_, ?_, ?_, ?_, ?_, ?_, h.rob, ?_, ?_, h.sig⟩
  · exact h.below.trans ⟨rfl, rfl, rfl, by simp, fun b hb => hold b (by have := h.size; omega)⟩
  · have := h.size; simp; omega
  · intro b x hx; show (w.heap.push ob)[b]? = _; rw [hold b (hlt b x hx)]; exact h.ro b x hx
  · intro j hj; simp only [Hp.n_new] at hj; simp only [Env.put]; rw [if_neg (by omega)]; exact h.dom j (by omega)
  · intro j hj; simp only [Hp.n_new] at hj; rw [Hp.get_new, if_neg (by omega)]; exact h.hdom j (by omega)
  · intro j l hl
    rw [Hp.get_new] at hl
    split at hl
    · rename_i e; subst e; cases hl
      refine ⟨w.heap.size, o, n, by simp [Env.put], h.size, ?_, hk⟩
      cases hr : (E.put H.n (w.heap.size, o, n)).ro w.heap.size with
      | none => rfl
      | some x => have := hlt _ _ hr; omega
    · rename_i hne
      obtain ⟨b, o', n', e, hb, hr, ok⟩ := h.live j l hl
      exact ⟨b, o', n', hext.ρ _ _ e, hb, hr, (ok.heap (hold b ok.lt)).ext hext⟩
  · intro i j k' l hi hj hne p q hp hq
    rw [Hp.get_new] at hi hj
    simp only [Env.put] at hp hq
    split at hi
    · rename_i ei
      rw [if_neg (by omega)] at hj
      rw [if_pos ei] at hp
      rw [if_neg (by omega)] at hq
      obtain ⟨b, o', n', e, hb, hr, ok⟩ := h.live j l hj
      rw [e] at hq; cases hq; cases hp
      have := ok.lt; simp; omega
    · rename_i ei
      rw [if_neg ei] at hp
      split at hj
      · rename_i ej
        rw [if_pos ej] at hq
        obtain ⟨b, o', n', e, hb, hr, ok⟩ := h.live i k' hi
        rw [e] at hp; cases hp; cases hq
        have := ok.lt; simp; omega
      · rename_i ej
        rw [if_neg ej] at hq
        exact h.disj i j k' l hi hj hne p q hp hq
  · intro b x hx
    obtain ⟨h1, h2⟩ := h.fr b x hx
    exact ⟨by show (w.heap.push ob)[b]? = _; rw [hold b (Array.getElem?_eq_some_iff.1 h1).1]; exact h1, h2⟩
  · intro i k' hi p hp
    rw [Hp.get_new] at hi
    simp only [Env.put] at hp
    split at hi
    · rename_i ei
      rw [if_pos ei] at hp
      cases hp
      cases hf : w0.F w.heap.size with
      | none => rfl
      | some x => have := (Array.getElem?_eq_some_iff.1 (h.fr _ _ hf).1).1; omega
    · rename_i ei
      rw [if_neg ei] at hp
      exact h.frl i k' hi p hp

/-- the world's block behind a live block of the abstract heap is written -/
theorem St.write (h : St B w0 E H w) {id b o n : Nat} {k k' : Blk} (hl : H.get id = some k) (he : E.ρ id = some (b, o, n)) {w' : World}
    (hh : ∀ c, c ≠ b → w'.heap[c]? = w.heap[c]?) (hsz : w'.heap.size = w.heap.size) (hos : w'.os = w.os) (hta : w'.tape = w.tape) (hou : w'.output = w.output)
    (hk : BlkOk E b o n k' w') : St B w0 E (H.set id (some k')) w' := by
  obtain ⟨b', o', n', e, hb, hr, ok⟩ := h.live id k hl
  rw [he] at e; cases e
  have hfb := h.frl id k hl _ he
  refine ⟨?_, ?_, ?_, h.dom, ?_, ?_, ?_, h.rob, fun c x hx => ⟨?_, (h.fr c x hx).2⟩, ?_, h.sig⟩
  · exact h.below.trans ⟨hos, hta, hou, by omega, fun c hc => hh c (by omega)⟩
  · rw [hsz]; exact h.size
  · intro c x hx; rw [hh c (by rintro rfl; rw [hr] at hx; cases hx)]; exact h.ro c x hx
  · intro j hj; rw [Hp.get_set]; split
    · rename_i e; subst e; rw [h.hdom _ hj] at hl; cases hl
    · exact h.hdom j hj
  · intro j l hjl
    rw [Hp.get_set] at hjl
    split at hjl
    · rename_i e; subst e; cases hjl; exact ⟨b, o, n, he, hb, hr, hk⟩
    · rename_i hne
      obtain ⟨c, o2, n2, e2, hc2, hr2, ok2⟩ := h.live j l hjl
      have := h.disj j id l k hjl hl hne _ _ e2 he
      exact ⟨c, o2, n2, e2, hc2, hr2, ok2.heap (hh c this)⟩
  · intro i j k2 l hi hj hne
    rw [Hp.get_set] at hi hj
    have get : ∀ {x m}, (if x = id then some k' else H.get x) = some m → ∃ m', H.get x = some m' := by
      intro x m hx; split at hx
      · rename_i e; subst e; exact ⟨k, hl⟩
      · exact ⟨m, hx⟩
    obtain ⟨_, hi'⟩ := get hi
    obtain ⟨_, hj'⟩ := get hj
    exact h.disj i j _ _ hi' hj' hne
  · rw [hh c (by rintro rfl; rw [hfb] at hx; cases hx)]; exact (h.fr c x hx).1
  · intro i k2 hi p hp
    rw [Hp.get_set] at hi
    split at hi
    · rename_i e; subst e; exact h.frl _ _ hl p hp
    · exact h.frl i k2 hi p hp

/-- a block of the world that nothing is known of is written -/
theorem St.wild (h : St B w0 E H w) {F0 : Nat → Option Obj} (hs : ∀ c o, F0 c = some o → w0.F c = some o) {b : Nat} (hB : B ≤ b) (hro : E.ro b = none) (hF : F0 b = none)
    (hl : ∀ i k, H.get i = some k → ∀ p, E.ρ i = some p → p.1 ≠ b) {w' : World} (hh : ∀ c, c ≠ b → w'.heap[c]? = w.heap[c]?) (hsz : w'.heap.size = w.heap.size) (hos : w'.os = w.os) (hta : w'.tape = w.tape) (hou : w'.output = w.output) :
    St B { w0 with F := F0 } E H w' := by
  refine ⟨?_, ?_, ?_, h.dom, h.hdom, ?_, h.disj, h.rob, fun c x hx => ⟨?_, (h.fr c x (hs c x hx)).2⟩, fun i k hi p hp => ?_, h.sig⟩
  · exact h.below.trans ⟨hos, hta, hou, by omega, fun c hc => hh c (by omega)⟩
  · rw [hsz]; exact h.size
  · intro c x hx; rw [hh c (by rintro rfl; rw [hro] at hx; cases hx)]; exact h.ro c x hx
  · intro i k hk
    obtain ⟨c, o, n, e, hc, hr, ok⟩ := h.live i k hk
    exact ⟨c, o, n, e, hc, hr, ok.heap (hh c (hl i k hk _ e))⟩
  · have hx : F0 c = some x := hx
    rw [hh c (by rintro rfl; rw [hF] at hx; cases hx)]; exact (h.fr c x (hs c x hx)).1
  · show F0 p.1 = none
    cases hf : F0 p.1 with
    | none => rfl
    | some x => have := h.frl i k hi p hp; rw [hs _ _ hf] at this; cases this

/-- less is said to stay -/
theorem St.lessF (h : St B w0 E H w) {F0 : Nat → Option Obj} (hs : ∀ c o, F0 c = some o → w0.F c = some o) : St B { w0 with F := F0 } E H w :=
  ⟨h.below, h.size, h.ro, h.dom, h.hdom, h.live, h.disj, h.rob, fun c x hx => h.fr c x (hs c x hx), fun i k hi p hp => (by
    show F0 p.1 = none
    cases hf : F0 p.1 with
    | none => rfl
    | some x =>
      have := h.frl i k hi p hp
      rw [hs _ _ hf] at this
      cases this), h.sig⟩

/-- a block is forgotten, and written -/
theorem St.killWrite (h : St B w0 E H w) {id b o n : Nat} {k : Blk} (hl : H.get id = some k) (he : E.ρ id = some (b, o, n)) {w' : World}
    (hh : ∀ c, c ≠ b → w'.heap[c]? = w.heap[c]?) (hsz : w'.heap.size = w.heap.size) (hos : w'.os = w.os) (hta : w'.tape = w.tape) (hou : w'.output = w.output) : St B w0 E (H.set id none) w' := by
  obtain ⟨b', o', n', e, hb, hr, ok⟩ := h.live id k hl
  rw [he] at e; cases e
  refine (h.kill id).wild (F0 := w0.F) (fun _ _ h => h) hb hr (h.frl id k hl _ he) (fun i k2 hi p hp => ?_) hh hsz hos hta hou
  rw [Hp.get_set] at hi
  split at hi
  · cases hi
  · rename_i hne
    exact h.disj i id k2 k hi hl hne _ _ hp he

/-- a new block of the world that stays as it is -/
theorem St.newF (h : St B w0 E H w) (ob : Obj) : St B { w0 with F := fun b => if b = w.heap.size then some ob else w0.F b } E H { w with heap := w.heap.push ob } := by
  have hold : ∀ b, b < w.heap.size → (w.heap.push ob)[b]? = w.heap[b]? := fun b hb => by rw [Array.getElem?_push, if_neg (by omega)]
  have hlt : ∀ b x, E.ro b = some x → b < w.heap.size := fun b x hx => (Array.getElem?_eq_some_iff.1 (h.ro b x hx)).1
  refine ⟨h.below.trans ⟨rfl, rfl, rfl, by simp, fun b hb => hold b (by have := h.size; omega)⟩, by have := h.size; simp; omega, fun b x hx => by show (w.heap.push ob)[b]? = _; rw [hold b (hlt b x hx)]; exact h.ro b x hx, h.dom, h.hdom, fun i k hk => ?_, h.disj, h.rob, fun b x hx => ?_, fun i k hi p hp => ?_, h.sig⟩
  · obtain ⟨c, o, n, e, hc, hr, ok⟩ := h.live i k hk
    exact ⟨c, o, n, e, hc, hr, ok.heap (hold c ok.lt)⟩
  · have hx2 : (if b = w.heap.size then some ob else w0.F b) = some x := hx
    clear hx
    split at hx2
    · rename_i e
      have hx3 := Option.some.inj hx2
      subst hx3
      rw [e]
      refine ⟨by simp, ?_⟩
      cases hr : E.ro w.heap.size with
      | none => rfl
      | some y => have := hlt _ _ hr; omega
    · obtain ⟨h1, h2⟩ := h.fr b x hx2
      exact ⟨by show (w.heap.push ob)[b]? = _; rw [hold b (Array.getElem?_eq_some_iff.1 h1).1]; exact h1, h2⟩
  · show (if p.1 = w.heap.size then some ob else w0.F p.1) = none
    obtain ⟨c, o, n, e, hc, hr, ok⟩ := h.live i k hi
    rw [hp] at e; cases e
    rw [if_neg (Nat.ne_of_lt ok.lt)]
    exact h.frl i k hi _ hp
end

end Go.Proofs.Ytikcninaepoojaa.Ev
