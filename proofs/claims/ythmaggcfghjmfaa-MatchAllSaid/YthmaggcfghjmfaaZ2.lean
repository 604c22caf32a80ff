/- The walks, part 2: the evaluator, the functions, the laws. Conditions: none. -/
import Derived.Test.YthmaggcfghjmfaaZ1
/- What code has to come to, by its text: a predicate over what stands in the slots and in the heap, and that code which meets it does so in the model. -/
namespace Go.Proofs.Ythmaggcfghjmfaa.Ev
open Go.RowKit (Below)
set_option linter.unusedVariables false
set_option linter.unusedSimpArgs false
set_option linter.unusedSectionVars false

def bnd {α : Type} (o : Option α) (K : α → Prop) : Prop := match o with
  | some x => K x
  | none => False
theorem bnd_some {α : Type} (x : α) (K : α → Prop) : bnd (some x) K = K x := rfl
theorem bnd_none {α : Type} (K : α → Prop) : bnd none K = False := rfl
theorem bnd_ok {α : Type} {o : Option α} {K : α → Prop} (h : bnd o K) : ∃ x, o = some x ∧ K x := by
  cases o with
  | none => exact h.elim
  | some x => exact ⟨x, rfl, h⟩

def ifB (x : AV) (A B : Prop) : Prop := match x with
  | .lit (.bool t) => match t with
    | true => A
    | false => B
  | _ => False
theorem ifB_ok {x : AV} {A B : Prop} (h : ifB x A B) : (x = .lit (.bool true) ∧ A) ∨ (x = .lit (.bool false) ∧ B) := by
  unfold ifB at h
  split at h
  · rename_i t
    cases t
    · exact .inr ⟨rfl, h⟩
    · exact .inl ⟨rfl, h⟩
  · exact h.elim

def tyK (ti : Nat → Option TI) (t : Nat) (f : TI → Prop) : Prop := match ti t with
  | some i => f i
  | none => False
theorem tyK_ok {ti : Nat → Option TI} {t : Nat} {f : TI → Prop} (h : tyK ti t f) : ∃ i, ti t = some i ∧ f i := by
  unfold tyK at h
  split at h
  · rename_i i hi; exact ⟨i, hi, h⟩
  · exact h.elim

/-! ### operations whose types are told -/
def ldA (agg : Bool) (n : Nat) (H : Hp) (x : AV) : Option AV := match cellsAt H x n with
  | some l => pack agg l
  | none => none

def stA (n : Nat) (H : Hp) (a x : AV) : Option Hp := bif Nat.beq x.cells.length n && !x.isAny then storeCellsA H a x.cells else none

def cutR (agg : Bool) (off sz : Nat) (cs : List AV) : Option AV := bif agg then some (.agg ((cs.drop off).take sz)) else cs[off]?

def partR (agg : Bool) (off sz : Nat) (x : AV) : Option AV := match x with
  | .agg cs => cutR agg off sz cs
  | .lit (.agg vs) => cutR agg off sz (vs.toList.map .lit)
  | _ => none

def ixaArr (n sz : Nat) (x ix : AV) : Option AV := match intA ix with
  | some k => bif decide (0 ≤ k) && decide (k < n) then shiftA x (k.toNat * sz) else none
  | none => none

def ixaSl (sz : Nat) (x ix : AV) : Option AV := match intA ix with
  | some n => match x with
    | .sl id off _ len _ => bif decide (0 ≤ n) && decide (n < len) then some (.ptr id (off + n.toNat * sz)) else none
    | .imm s xs => bif decide (0 ≤ n) && Nat.beq s sz then (xs[n.toNat]?).map .ip else none
    | _ => none
  | none => none

def ixArr (agg : Bool) (n sz : Nat) (x ix : AV) : Option AV := match intA ix with
  | some k => bif decide (0 ≤ k) && decide (k < n) then partR agg (k.toNat * sz) sz x else none
  | none => none

def ixStr (x ix : AV) : Option AV := match intA ix with
  | some n => match x with
    | .lit (.string s) => bif decide (0 ≤ n) then (s.data.toList[n.toNat]?).map fun b => .lit (.int .u8 b.toNat) else none
    | _ => none
  | none => none

def lenStr (x : AV) : Option AV := match x with
  | .lit (.string s) => some (.lit (.int .i64 s.data.size))
  | _ => none

def lenSl (x : AV) : Option AV := match x with
  | .sl _ _ _ len _ => some (.lit (.int .i64 len))
  | .imm _ xs => some (.lit (.int .i64 xs.length))
  | .emp => some (.lit (.int .i64 0))
  | .se _ _ _ => some (.lit (.int .i64 0))
  | .lit (.slice _ n _) => some (.lit (.int .i64 n))
  | _ => none

def isStrT : TD → Option Bool
  | .slice _ => some false
  | .string => some true
  | _ => none

def appR (str : Bool) (sz bytes : Nat) (H : Hp) (x y : AV) : Option (AV × Hp) :=
  bif (match str with | true => isStr y | false => notStr y) then
    match srcA H sz y with
    | some (n, l) =>
      bif l.all AV.one then
      bif Nat.beq n 0 then
        match x with
        | .lit (.slice none 0 0) => some (x, H)
        | .emp => some (x, H)
        | .sl _ _ _ _ _ => some (x, H)
        | .se _ _ _ => some (x, H)
        | .imm _ _ => some (x, H)
        | _ => none
      else
        match x with
        | .lit (.slice none 0 0) => bif Nat.ble (n * bytes) 140737488355328 && Nat.ble n 4611686018427387904 then some (.sl H.n 0 sz n none, H.new (.cells l false)) else none
        | .emp => bif Nat.ble (n * bytes) 140737488355328 && Nat.ble n 4611686018427387904 then some (.sl H.n 0 sz n none, H.new (.cells l false)) else none
        | .sl id off sz' len cap =>
          match H.get id with
          | some (.cells cs ex) =>
            bif Nat.beq sz' sz && (Nat.ble (off + len * sz') cs.length && (Nat.ble ((len + n) * bytes) 140737488355328 && Nat.ble (len + n) 4611686018427387904)) then
              match cap with
              | some c =>
                bif Nat.ble (len + n) c then
                  bif Nat.ble (off + len * sz' + l.length) cs.length then some (.sl id off sz' (len + n) (some c), H.set id (some (.cells (overlay cs (off + len * sz') l) ex))) else none
                else some (.sl H.n 0 sz' (len + n) none, H.new (.cells ((cs.drop off).take (len * sz') ++ l) false))
              | none => some (.sl H.n 0 sz' (len + n) none, (H.set id none).new (.cells ((cs.drop off).take (len * sz') ++ l) false))
            else none
          | _ => none
        | .se id off sz' =>
          match H.get id with
          | some (.cells cs _) =>
            bif Nat.beq sz' sz && (Nat.ble off cs.length && (Nat.ble (n * bytes) 140737488355328 && Nat.ble n 4611686018427387904)) then some (.sl H.n 0 sz' n none, (H.set id none).new (.cells l false))
            else none
          | _ => none
        | _ => none
      else none
    | none => none
  else none

def binR (op : BinOp) (x y : AV) : Option AV := match lit? x, lit? y with
  | some a, some b => match sbin op a b with
    | some v => some (.lit v)
    | none => none
  | _, _ => none

def tfB (op : BinOp) (b : Bool) : Option AV := match op with
  | .eql => some (.lit (.bool b))
  | .neq => some (.lit (.bool (!b)))
  | _ => none

def eqBoolR (op : BinOp) (x y : AV) : Option AV := match x, y with
  | .lit (.bool a), .lit (.bool b) => tfB op (a == b)
  | _, _ => none

def eqPtrR (op : BinOp) (x y : AV) : Option AV := match x, y with
  | .ptr _ _, .lit (.pointer none) => tfB op false
  | .ip _, .lit (.pointer none) => tfB op false
  | .lit (.pointer none), .ptr _ _ => tfB op false
  | .lit (.pointer none), .ip _ => tfB op false
  | .lit (.pointer none), .lit (.pointer none) => tfB op true
  | _, _ => none

def eqSlR (op : BinOp) (x y : AV) : Option AV := match x, y with
  | .lit (.slice a _ _), .lit (.slice none _ _) => tfB op a.isNone
  | .sl _ _ _ _ _, .lit (.slice none _ _) => tfB op false
  | .imm _ (_ :: _), .lit (.slice none _ _) => tfB op false
  | _, _ => none

def eqFnR (op : BinOp) (x y : AV) : Option AV := match x, y with
  | .fn _ _, .lit .nilFunc => tfB op false
  | .lit .nilFunc, .fn _ _ => tfB op false
  | .lit .nilFunc, .lit .nilFunc => tfB op true
  | _, _ => none

def eqC : List KK → List AV → List AV → Option Bool
  | [], [], [] => some true
  | .int k :: ks, .lit (.int k1 a) :: xs, .lit (.int k2 b) :: ys => bif decide (k = k1) && decide (k = k2) then (eqC ks xs ys).map (decide (a = b) && ·) else none
  | .bool :: ks, .lit (.bool a) :: xs, .lit (.bool b) :: ys => (eqC ks xs ys).map ((a == b) && ·)
  | .string :: ks, .lit (.string a) :: xs, .lit (.string b) :: ys => (eqC ks xs ys).map (beqS a b && ·)
  | _, _, _ => none

def eqAggR (ks : List KK) (op : BinOp) (x y : AV) : Option AV := bif isAggA x && isAggA y then match eqC ks x.cells y.cells with
    | some b => tfB op b
    | none => none
  else none

def unR (op : UnOp) (x : AV) : Option AV := match x with
  | .lit v => match sun op v with
    | some u => some (.lit u)
    | none => none
  | _ => none

def bldR (z : List AV) : List (Nat × Nat × AV) → Option (List AV)
  | [] => some z
  | (off, sz, x) :: r => bif Nat.beq x.cells.length sz && (Nat.ble (off + x.cells.length) z.length && !x.isAny) then bldR (overlay z off x.cells) r else none

def zrow (z : List Value) (n : Nat) : List AV := (List.range n).map fun j => .lit (z.toArray[j % z.toArray.size]!)

def bldSlR (z : List Value) (sz n : Nat) (H : Hp) (ps : List (Nat × Nat × AV)) : Option (AV × Hp) := match bldR (zrow z (n * sz)) ps with
  | some cs => bif Nat.beq cs.length (n * sz) then some (.sl H.n 0 sz n (some n), H.new (.cells cs true)) else none
  | none => none

def mkSlR (z : List Value) (sz bytes : Nat) (H : Hp) (l c : AV) : Option (AV × Hp) := match intA l, intA c with
  | some l, some c => bif decide (0 ≤ l) && (decide (l ≤ c) && (Nat.ble c.toNat 9223372036854775807 && Nat.ble (bytes * c.toNat) 281474976710656)) then
      some (.sl H.n 0 sz l.toNat (some c.toNat), H.new (.cells (zrow z (c.toNat * sz)) true))
    else none
  | _, _ => none

def intO : Option AV → Option (Option Int)
  | none => some none
  | some x => match intA x with
    | some n => some (some n)
    | none => none

def slStr (x : AV) (lo hi : Option AV) : Option AV := match intO lo, intO hi with
  | some lo, some hi => match x with
    | .lit (.string s) => (boundsA s.data.size s.data.size lo hi none).map fun p => .lit (.string (extractS s p.1 p.2.1))
    | _ => none
  | _, _ => none

def slSl0 (sz0 : Nat) (x : AV) (lo hi mx : Option Int) : Option AV := match x with
  | .sl id off sz len (some c) => bif Nat.beq sz sz0 && Nat.ble len c then
      match boundsA len c lo hi mx with
      | some (l, h, m) => let m := m.getD c; bif Nat.beq m l then some .emp else some (.sl id (off + l * sz) sz (h - l) (some (m - l)))
      | none => none
    else none
  | .sl id off sz len none => bif Nat.beq sz sz0 then
      match boundsA len len lo hi mx with
      | some (l, h, none) => bif Nat.beq l 0 then some (.sl id off sz h none) else bif Nat.beq h l then some (.se id (off + l * sz) sz) else some (.sl id (off + l * sz) sz (h - l) none)
      | some (l, h, some m) => bif Nat.beq m l then some .emp else some (.sl id (off + l * sz) sz (h - l) (some (m - l)))
      | none => none
    else none
  | .imm sz xs => bif Nat.beq sz sz0 then
      match boundsA xs.length xs.length lo hi mx with
      | some (l, h, none) => some (.imm sz ((xs.drop l).take (h - l)))
      | some (l, h, some m) => bif Nat.beq m l then some .emp else some (.imm sz ((xs.drop l).take (h - l)))
      | none => none
    else none
  | .emp => match boundsA 0 0 lo hi mx with
      | some _ => some .emp
      | none => none
  | .se id off sz => bif Nat.beq sz sz0 then
      match boundsA 0 0 lo hi mx with
      | some (_, _, none) => some (.se id off sz)
      | some (_, _, some _) => some .emp
      | none => none
    else none
  | .lit (.slice none 0 0) => match boundsA 0 0 lo hi mx with
      | some _ => some (.lit (.slice none 0 0))
      | none => none
  | _ => none

def slSl (sz0 : Nat) (x : AV) (lo hi mx : Option AV) : Option AV := match intO lo, intO hi, intO mx with
  | some lo, some hi, some mx => slSl0 sz0 x lo hi mx
  | _, _, _ => none

def slArr (n sz : Nat) (H : Hp) (x : AV) (lo hi mx : Option AV) : Option AV := match intO lo, intO hi, intO mx with
  | some lo, some hi, some mx => match x with
    | .ptr id off => match H.get id with
      | some (.cells cs _) => bif Nat.ble (off + n * sz) cs.length then
        match boundsA n n lo hi mx with
        | some (l, h, m) => let m := m.getD n; bif Nat.beq m l then some .emp else some (.sl id (off + l * sz) sz (h - l) (some (m - l)))
        | none => none
        else none
      | _ => none
    | _ => none
  | _, _, _ => none

def nilR : AV → Option AV
  | .ptr id o => some (.ptr id o)
  | .ip cs => some (.ip cs)
  | .fn f cs => some (.fn f cs)
  | _ => none

def exR (x : AV) (i : Nat) : Option AV := match x with
  | .tup vs => vs[i]?
  | _ => none

def cvInt (k : IntKind) (x : AV) : Option AV := match x with
  | .lit (.int _ n) => some (.lit (.int k (wr k n)))
  | _ => none

def cvStr (x : AV) : Option AV := match x with
  | .lit (.string b) => some (.lit (.string b))
  | _ => none

def cvToStr (H : Hp) (x : AV) : Option AV := match x with
  | .lit (.slice none _ _) => some (.lit (.string ⟨#[]⟩))
  | .lit (.string _) => none
  | x => match srcA H 1 x with
    | some (_, l) => bif l.all AV.one then (bytesA l).map fun bs => .lit (.string ⟨bs.toArray⟩) else none
    | none => none

def cvToBytes (H : Hp) (x : AV) : Option (AV × Hp) := match x with
  | .lit (.string b) => some (.sl H.n 0 1 b.data.size none, H.new (.cells (b.data.toList.map fun c => .lit (.int .u8 c.toNat)) false))
  | _ => none

def pickR (c a b : AV) : Option AV := match c with
  | .lit (.bool t) => some (bif t then a else b)
  | _ => none

def boxK (x : AV) (H : Hp) (K : AV → Hp → Prop) : Prop := bif x.isAny then False else K (.ptr H.n 0) (H.new (.cells x.cells true))
def allocK (z : List AV) (H : Hp) (K : AV → Hp → Prop) : Prop := K (.ptr H.n 0) (H.new (.cells z true))

/-- A call: by a contract. -/
def callK (P : Program) (σ : Sig) (g : Nat) (xs : List AV) (H : Hp) (K : AV → Hp → Prop) : Prop := ∃ r H1, Good P σ g xs H r H1 ∧ K r H1

def callV (P : Program) (σ : Sig) (f : AV) (xs : List AV) (H : Hp) (K : AV → Hp → Prop) : Prop := match f with
  | .fn g caps => callK P σ g (xs ++ caps) H K
  | .yl id => ∃ r H1, GoodY P σ id xs H r H1 ∧ K r H1
  | _ => False

/-- The places of a literal's parts. -/
def placed (place : Nat → Option (Nat × Nat)) (T : List AV) : List (Nat × Operand) → List (Nat × Nat × AV)
  | [] => []
  | (i, x) :: r => (match place i with | some (o, s) => (o, s, evO T x) | none => (0, 0, .any)) :: placed place T r

section
variable {P : Program} (C : Ctx P)

def opK (T : List AV) (H : Hp) (o : Op) (K : AV → Hp → Prop) : Prop :=
  match o with
  | .move x => K (evO T x) H
  | .assign x => K (evO T x) H
  | .pick c a b => bnd (pickR (evO T c) (evO T a) (evO T b)) fun x => K x H
  | .alloc t => tyK C.ti t fun i => allocK (i.zero.map .lit) H K
  | .box t x => boxK (evO T x) H K
  | .build t ps => tyK C.ti t fun i => match placeOf C.ti i.d with
    | some place => bnd (bldR (i.zero.map .lit) (placed place T ps.toList)) fun l => K (.agg l) H
    | none => False
  | .buildSlice t n ps => tyK C.ti t fun i => match i.d with
    | .slice e => tyK C.ti e fun j => match Nat.ble (n * j.size) 16777216 with
      | true => bnd (bldSlR j.zero j.size n H (placed (fun k => some (k * j.size, j.size)) T ps.toList)) fun p => K p.1 p.2
      | false => False
    | _ => False
  | .load t a => tyK C.ti t fun i => bnd (ldA i.d.agg i.size H (evO T a)) fun x => K x H
  | .store t a x => tyK C.ti t fun i => bnd (stA i.size H (evO T a) (evO T x)) fun H1 => K (.lit undef) H1
  | .nilCheck x => bnd (nilR (evO T x)) fun x => K x H
  | .binOp op t x y _ => tyK C.ti t fun i => match i.d with
    | .int _ => bnd (binR op (evO T x) (evO T y)) fun v => K v H
    | .string => bnd (binR op (evO T x) (evO T y)) fun v => K v H
    | .bool => bnd (eqBoolR op (evO T x) (evO T y)) fun v => K v H
    | .ptr _ => bnd (eqPtrR op (evO T x) (evO T y)) fun v => K v H
    | .slice _ => bnd (eqSlR op (evO T x) (evO T y)) fun v => K v H
    | .func => bnd (eqFnR op (evO T x) (evO T y)) fun v => K v H
    | .struct _ => match C.keys t with
      | some ks => bnd (eqAggR ks op (evO T x) (evO T y)) fun v => K v H
      | none => False
    | .array _ _ => match C.keys t with
      | some ks => bnd (eqAggR ks op (evO T x) (evO T y)) fun v => K v H
      | none => False
    | _ => False
  | .unOp op _ x => bnd (unR op (evO T x)) fun v => K v H
  | .convert s d x => tyK C.ti s fun si => tyK C.ti d fun di => match di.d with
    | .int k => bnd (cvInt k (evO T x)) fun v => K v H
    | .string => match si.d with
      | .string => bnd (cvStr (evO T x)) fun v => K v H
      | .slice e => match C.ti e with
        | some ⟨.int .u8, _, _, _⟩ => bnd (cvToStr H (evO T x)) fun v => K v H
        | _ => False
      | _ => False
    | .slice e => match C.ti e with
      | some ⟨.int .u8, _, _, _⟩ => bnd (cvToBytes H (evO T x)) fun p => K p.1 p.2
      | _ => False
    | _ => False
  | .makeFunc fn first caps => match fn, first with
    | .func f, ⟨[]⟩ => K (.fn f (caps.toList.map (evO T))) H
    | _, _ => False
  | .makeSlice t l c => tyK C.ti t fun i => match i.d with
    | .slice e => tyK C.ti e fun j => bnd (mkSlR j.zero j.size j.bytes H (evO T l) (evO T c)) fun p => K p.1 p.2
    | _ => False
  | .slice t x lo hi mx => tyK C.ti t fun i => match i.d with
    | .string => match mx with
      | none => bnd (slStr (evO T x) (lo.map (evO T)) (hi.map (evO T))) fun y => K y H
      | some _ => False
    | .slice e => tyK C.ti e fun j => bnd (slSl j.size (evO T x) (lo.map (evO T)) (hi.map (evO T)) (mx.map (evO T))) fun y => K y H
    | .array n e => tyK C.ti e fun j => bnd (slArr n j.size H (evO T x) (lo.map (evO T)) (hi.map (evO T)) (mx.map (evO T))) fun y => K y H
    | _ => False
  | .fieldAddr t x f => tyK C.ti t fun i => match i.d with
    | .struct fs => match fs[f]? with
      | some (off, ft) => tyK C.ti ft fun j => match Nat.beq j.size 0 with
        | true => False
        | false => bnd (shiftA (evO T x) off) fun y => K y H
      | none => False
    | _ => False
  | .field t x f => tyK C.ti t fun i => match i.d with
    | .struct fs => match fs[f]? with
      | some (off, ft) => tyK C.ti ft fun j => bnd (partR j.d.agg off j.size (evO T x)) fun y => K y H
      | none => False
    | _ => False
  | .indexAddr t x i => tyK C.ti t fun ty => match ty.d with
    | .array n e => tyK C.ti e fun j => bnd (ixaArr n j.size (evO T x) (evO T i)) fun y => K y H
    | .slice e => tyK C.ti e fun j => bnd (ixaSl j.size (evO T x) (evO T i)) fun y => K y H
    | _ => False
  | .index t x i => tyK C.ti t fun ty => match ty.d with
    | .array n e => tyK C.ti e fun j => bnd (ixArr j.d.agg n j.size (evO T x) (evO T i)) fun y => K y H
    | .string => bnd (ixStr (evO T x) (evO T i)) fun y => K y H
    | _ => False
  | .extract x i => bnd (exR (evO T x) i) fun y => K y H
  | .call ⟨.builtin .len, args, ts⟩ => match ts[0]?, args.toList with
    | some t, [x] => tyK C.ti t fun ty => match ty.d with
      | .string => bnd (lenStr (evO T x)) fun y => K y H
      | .slice _ => bnd (lenSl (evO T x)) fun y => K y H
      | .array n _ => K (.lit (.int .i64 n)) H
      | _ => False
    | _, _ => False
  | .call ⟨.builtin .append, args, ts⟩ => match ts, args.toList with
    | ⟨[s, t]⟩, [x, y] => tyK C.ti s fun si => tyK C.ti t fun tj => match si.d, isStrT tj.d with
      | .slice e, some str => tyK C.ti e fun i => match Nat.beq i.zero.length i.size with
        | true => bnd (appR str i.size i.bytes H (evO T x) (evO T y)) fun p => K p.1 p.2
        | false => False
      | _, _ => False
    | _, _ => False
  | .call ⟨.builtin .min, args, _⟩ => bnd (minA (args.toList.map (evO T))) fun y => K y H
  | .call ⟨.builtin .max, args, _⟩ => bnd (maxA (args.toList.map (evO T))) fun y => K y H
  | .call ⟨.value f, args, _⟩ => callV P C.σ (evO T f) (args.toList.map (evO T)) H K
  | .makeMap _ none => K (.mp H.n) (H.new (.map []))
  | .lookup t m k ok => tyK C.ti t fun i => match i.d with
    | .map kt et => tyK C.ti et fun ie => match mkOf C kt, zeroA ie with
      | some (ag, ks), some z => bnd (lookR z ag ks ok H (evO T m) (evO T k)) fun y => K y H
      | _, _ => False
    | _ => False
  | .mapUpdate t m k v => tyK C.ti t fun i => match i.d with
    | .map kt et => match mkOf C kt with
      | some (ag, ks) => bnd (putR ag ks H (evO T m) (evO T k) (evO T v)) fun H1 => K (.lit undef) H1
      | none => False
    | _ => False
  | _ => False
end
end Go.Proofs.Ythmaggcfghjmfaa.Ev

