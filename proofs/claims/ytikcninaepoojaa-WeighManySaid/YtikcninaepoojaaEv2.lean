/- What the operations of the code do to abstract values; that the model does the same. -/
import Derived.Test.YtikcninaepoojaaEv1
import Derived.Laws.IdiomCopy
import Derived.Deep.AppendSrc
namespace Go.Proofs.Ytikcninaepoojaa.Ev
open Go.RowKit (Below)
set_option linter.unusedVariables false
set_option linter.unusedSimpArgs false

/-! ### types -/
inductive TD where
  | int (k : IntKind) | bool | string | slice (e : Nat) | array (n e : Nat) | struct (fs : List (Nat × Nat)) | ptr (e : Nat) | func | map (k e : Nat) | other

structure TI where
  d : TD
  size : Nat
  bytes : Nat
  zero : List Value

def TD.of : TypeDesc → TD
  | .int k => .int k
  | .bool => .bool
  | .string => .string
  | .slice e => .slice e
  | .array n e => .array n e
  | .struct fs => .struct (fs.toList.map fun f => (f.offset, f.type))
  | .pointer e => .ptr e
  | .func .. => .func
  | .map k e => .map k e
  | _ => .other

def TD.agg : TD → Bool
  | .struct _ => true
  | .array _ _ => true
  | _ => false

def zAgg : Value → Bool
  | .agg _ => true
  | _ => false

def tiOf (P : Program) (t : Nat) : Option TI :=
  match P.info? t, P.underlying t with
  | some i, some d => match i.zero with
    | some z => bif zAgg z == (TD.of d).agg then some ⟨TD.of d, i.size, i.bytes, z.cells.toList⟩ else none
    | none => none
  | _, _ => none

structure TIok (P : Program) (t : Nat) (i : TI) where
  info : TypeInfo
  d : TypeDesc
  z : Value
  hi : P.info? t = some info
  hu : P.underlying t = some d
  hz : info.zero = some z
  he : i = ⟨TD.of d, info.size, info.bytes, z.cells.toList⟩
  hza : zAgg z = (TD.of d).agg

theorem tiOf_ok {P : Program} {t : Nat} {i : TI} (h : tiOf P t = some i) : Nonempty (TIok P t i) := by
  unfold tiOf at h
  cases hi : P.info? t with
  | none => simp [hi] at h
  | some info =>
    cases hu : P.underlying t with
    | none => simp [hi, hu] at h
    | some d =>
      cases hz : info.zero with
      | none => simp [hi, hu, hz] at h
      | some z =>
        cases hb : (zAgg z == (TD.of d).agg) with
        | false => simp [hi, hu, hz, hb] at h
        | true => simp [hi, hu, hz, hb] at h; exact ⟨⟨info, d, z, hi, hu, hz, h.symm, eq_of_beq hb⟩⟩

section
variable {P : Program} {t : Nat} {i : TI}
theorem TIok.size_eq (h : TIok P t i) : h.info.size = i.size := (congrArg TI.size h.he).symm
theorem TIok.bytes_eq (h : TIok P t i) : h.info.bytes = i.bytes := (congrArg TI.bytes h.he).symm
theorem TIok.zero_eq (h : TIok P t i) : i.zero.toArray = h.z.cells := by rw [congrArg TI.zero h.he]
theorem TIok.d_eq (h : TIok P t i) : i.d = TD.of h.d := congrArg TI.d h.he
theorem TIok.underlying (h : TIok P t i) (w : World) : (underlying t).run P w = .ok h.d w := run_underlying h.hu w
theorem TIok.typeInfo (h : TIok P t i) (w : World) : (typeInfo t).run P w = .ok h.info w := by simp [Go.typeInfo, h.hi]
theorem TIok.sizeOf (h : TIok P t i) (w : World) : (sizeOf t).run P w = .ok i.size w := by
  have := h.he
  simp [Go.sizeOf, h.typeInfo, this]
theorem TIok.zeroValue (h : TIok P t i) (w : World) : (zeroValue t).run P w = .ok h.z w := by simp [Go.zeroValue, h.typeInfo, h.hz]
theorem TIok.isAgg (h : TIok P t i) (w : World) : (isAgg t).run P w = .ok i.d.agg w := by
  have := h.he
  simp only [Go.isAgg, Sem.run_bind, h.underlying, Result.andThen, this]
  cases h.d <;> rfl
end

/-! ### memory -/
def AV.one : AV → Bool
  | .lit v => v.oneCell'
  | .agg _ => false
  | .tup _ => false
  | .any => false
  | _ => true

def AV.isAny : AV → Bool
  | .any => true
  | _ => false

theorem Rel.one {E : Env} {x : AV} {v : Value} (h : Rel E x v) (h1 : x.one = true) : v.oneCell' = true := by
  cases h <;> first | exact h1 | rfl | (simp [AV.one] at h1)

def AV.cells : AV → List AV
  | .agg cs => cs
  | .lit (.agg vs) => vs.toList.map .lit
  | x => [x]

theorem Rel.cells {E : Env} {x : AV} {v : Value} (h : Rel E x v) (ha : x.isAny = false) : RelL E x.cells v.cells := by
  have single : ∀ {x : AV} {v : Value}, Rel E x v → RelL E [x] #[v] := fun {x v} h => ⟨rfl, fun i y u hy hu => by
    cases i with
    | zero => simp at hy hu; subst hy; subst hu; exact h
    | succ i => simp at hy⟩
  cases h with
  | agg hl h => exact ⟨hl, h⟩
  | lit v =>
    cases v with
    | agg vs =>
      refine ⟨by simp [AV.cells, Value.cells], fun i y u hy hu => ?_⟩
      simp [AV.cells, Value.cells] at hy hu
      obtain ⟨z, hz, rfl⟩ := hy
      rw [hu] at hz; cases hz
      exact .lit _
    | _ => exact single (.lit _)
  | any => cases ha
  | _ => exact single (by constructor <;> assumption)

theorem RelL.list {E : Env} {xs : List AV} {vs : Array Value} (h : RelL E xs vs) {P : AV → Bool} (hp : xs.all P = true) (hq : ∀ x v, Rel E x v → P x = true → v.oneCell' = true) :
    ∀ v ∈ vs.toList, v.oneCell' = true := by
  intro v hv
  obtain ⟨i, hi⟩ := List.getElem?_of_mem hv
  have hlt : i < xs.length := by
    have := (List.getElem?_eq_some_iff.1 hi).1
    have hl := h.len
    simp at this; omega
  have hx : xs[i]? = some xs[i] := List.getElem?_eq_getElem hlt
  exact hq _ _ (h.at_ i _ _ hx (by simpa using hi)) (List.all_eq_true.1 hp _ (List.getElem_mem hlt))

def cellsAt (H : Hp) (x : AV) (n : Nat) : Option (List AV) :=
  match x with
  | .ptr id off => match H.get id with
    | some (.cells cs _) => bif Nat.beq ((cs.drop off).take n).length n then some ((cs.drop off).take n) else none
    | _ => none
  | .ip cs => bif Nat.beq (cs.take n).length n then some (cs.take n) else none
  | _ => none

theorem addr_add (b o j : Nat) : (⟨b, o, none⟩ : Addr).add j = ⟨b, o + j, none⟩ := by unfold Addr.add; split <;> simp_all

theorem exists_list {n : Nat} {p : Nat → Value → Prop} (h : ∀ j, j < n → ∃ v, p j v) : ∃ vs : List Value, vs.length = n ∧ ∀ j v, vs[j]? = some v → p j v := by
  induction n with
  | zero => exact ⟨[], rfl, fun j v hv => by simp at hv⟩
  | succ n ih =>
    obtain ⟨vs, hl, hp⟩ := ih (fun j hj => h j (by omega))
    obtain ⟨u, hu⟩ := h n (by omega)
    refine ⟨vs ++ [u], by simp [hl], fun j v hv => ?_⟩
    by_cases hj : j < vs.length
    · rw [List.getElem?_append_left hj] at hv; exact hp j v hv
    · rw [List.getElem?_append_right (by omega)] at hv
      have : j = n := by
        have := (List.getElem?_eq_some_iff.1 hv).1
        simp at this; omega
      subst this
      rw [hl] at hv; simp at hv; subst hv; exact hu

section
variable {B : Nat} {w0 : Base} {E : Env} {H : Hp} {w : World}

theorem St.cell_ro (h : St B w0 E H w) {b o : Nat} {v : Value} (hc : E.cell b o = some v) : w.cell? ⟨b, o, none⟩ = some v := by
  unfold Env.cell at hc
  cases hb : E.ro b with
  | none => simp [hb] at hc
  | some x =>
    rw [hb] at hc
    have := h.ro b x hb
    cases x <;> simp at hc
    simp [World.cell?, this, hc]

theorem St.cell_live (h : St B w0 E H w) {id b o n : Nat} {cs : List AV} {ex : Bool} (hl : H.get id = some (.cells cs ex)) (he : E.ρ id = some (b, o, n)) {j : Nat} {x : AV} (hx : cs[j]? = some x) :
    ∃ v, w.cell? ⟨b, o + j, none⟩ = some v ∧ Rel E x v := by
  obtain ⟨b', o', n', e, hb, hr, ok⟩ := h.live id _ hl
  rw [he] at e; cases e
  obtain ⟨c, ty, lo, hi, h1, h2, h3, h4, h5, h6⟩ := ok
  obtain ⟨v, hv, r⟩ := h6 j x hx
  exact ⟨v, by simp [World.cell?, h1, hv], r⟩

theorem St.frozen_live (h : St B w0 E H w) {id b o n : Nat} {cs : List AV} {ex : Bool} (hl : H.get id = some (.cells cs ex)) (he : E.ρ id = some (b, o, n)) {j : Nat} (hj : j < n) :
    w.frozen? ⟨b, o + j, none⟩ = false ∧ (w.cell? ⟨b, o + j, none⟩).isSome = true := by
  obtain ⟨b', o', n', e, hb, hr, ok⟩ := h.live id _ hl
  rw [he] at e; cases e
  obtain ⟨c, ty, lo, hi, h1, h2, h3, h4, h5, h6⟩ := ok
  have hlt : o + j < c.size := by omega
  refine ⟨?_, by simp [World.cell?, h1, hlt]⟩
  simp only [World.frozen?, h1, Bool.and_eq_false_iff, decide_eq_false_iff_not]
  omega

theorem cellsAt_ok (h : St B w0 E H w) {x : AV} {v : Value} {n : Nat} {l : List AV} (hr : Rel E x v) (hc : cellsAt H x n = some l) :
    ∃ a, v = .pointer (some a) ∧ l.length = n ∧ ∃ vs : List Value, vs.length = n ∧ (∀ j u, vs[j]? = some u → w.cell? (a.add j) = some u) ∧ RelL E l vs.toArray := by
  have fin : ∀ (b o : Nat) (l : List AV), l.length = n → (∀ j x, l[j]? = some x → ∃ v, w.cell? ⟨b, o + j, none⟩ = some v ∧ Rel E x v) →
      ∃ vs : List Value, vs.length = n ∧ (∀ j u, vs[j]? = some u → w.cell? ((⟨b, o, none⟩ : Addr).add j) = some u) ∧ RelL E l vs.toArray := by
    intro b o l hl hx
    obtain ⟨vs, h1, h2⟩ := exists_list (n := n) (p := fun j v => w.cell? ⟨b, o + j, none⟩ = some v ∧ ∀ x, l[j]? = some x → Rel E x v) (fun j hj => by
      obtain ⟨v, hv, r⟩ := hx j l[j] (List.getElem?_eq_getElem (by omega))
      exact ⟨v, hv, fun x hx' => by rw [List.getElem?_eq_getElem (by omega)] at hx'; cases hx'; exact r⟩)
    refine ⟨vs, h1, fun j u hu => by rw [addr_add]; exact (h2 j u hu).1, ⟨by simp [h1, hl], fun i x u hx' hu => (h2 i u (by simpa using hu)).2 x hx'⟩⟩
  cases hr <;> simp only [cellsAt] at hc <;> try (cases hc)
  case ptr id off b o m hρ =>
    cases hg : H.get id with
    | none => simp [hg] at hc
    | some k =>
      cases k with
      | map => simp [hg] at hc
      | loop => simp [hg] at hc
      | cells cs ex =>
        simp only [hg] at hc
        cases hb : Nat.beq ((cs.drop off).take n).length n with
        | false => simp only [hb, cond_false] at hc; cases hc
        | true =>
          simp only [hb, cond_true, Option.some.injEq] at hc
          have hl := Nat.eq_of_beq_eq_true hb
          subst hc
          refine ⟨_, rfl, hl, fin b (o + off) _ hl (fun j x hx => ?_)⟩
          rw [List.getElem?_take] at hx
          split at hx
          · rw [List.getElem?_drop] at hx
            obtain ⟨v, hv, r⟩ := h.cell_live hg hρ hx
            exact ⟨v, by rw [Nat.add_assoc]; exact hv, r⟩
          · cases hx
  case ip b o cs val hro hrel =>
    cases hb : Nat.beq (cs.take n).length n with
    | false => simp only [hb, cond_false] at hc; cases hc
    | true =>
      simp only [hb, cond_true, Option.some.injEq] at hc
      have hl := Nat.eq_of_beq_eq_true hb
      subst hc
      refine ⟨_, rfl, hl, fin b o _ hl (fun j x hx => ?_)⟩
      rw [List.getElem?_take] at hx
      split at hx
      · exact ⟨val j, h.cell_ro (hro j x hx), hrel j x hx⟩
      · cases hx

def pack (agg : Bool) (l : List AV) : Option AV :=
  match agg, l with
  | true, l => some (.agg l)
  | false, [x] => some x
  | false, _ => none

def loadA (ti : Nat → Option TI) (H : Hp) (t : Nat) (x : AV) : Option AV :=
  match ti t with
  | some i => match cellsAt H x i.size with
    | some l => pack i.d.agg l
    | none => none
  | none => none

theorem loadVar_ok {P : Program} (h : St B w0 E H w) {t : Nat} {i : TI} (ht : TIok P t i) {x y : AV} {a : Addr} {l : List AV} (hr : Rel E x (.pointer (some a))) (hc : cellsAt H x i.size = some l)
    (hp : pack i.d.agg l = some y) : ∃ u, (loadVar t a).run P w = .ok u w ∧ Rel E y u := by
  obtain ⟨a', he, hl, vs, h1, h2, h3⟩ := cellsAt_ok h hr hc
  cases he
  unfold loadVar
  simp only [Sem.run_bind, ht.isAgg, Result.andThen]
  cases hg : i.d.agg with
  | true =>
    simp only [hg, pack, Option.some.injEq] at hp
    subst hp
    have := run_loadCells_list (P := P) w a vs h2
    rw [h1] at this
    refine ⟨.agg vs.toArray, ?_, .agg h3.len h3.at_⟩
    simp [ht.sizeOf, this]
  | false =>
    simp only [hg] at hp
    match l, hp with
    | [z], hp =>
      simp only [pack, Option.some.injEq] at hp
      subst hp
      match vs, h1 with
      | [u], _ =>
        refine ⟨u, ?_, h3.at_ 0 _ _ rfl (by simp)⟩
        have := h2 0 u rfl
        simp only [Addr.add, if_true] at this
        simp [this]
      | [], h1 => simp at h1; simp [← h1] at hl
      | _ :: _ :: _, h1 => simp at h1; simp [← h1] at hl

theorem loadA_ok {P : Program} {ti : Nat → Option TI} (hti : ∀ t i, ti t = some i → tiOf P t = some i) (h : St B w0 E H w) {t : Nat} {x y : AV} {v : Value} (hr : Rel E x v) (hl : loadA ti H t x = some y) :
    ∃ u, (Instr.loadAt t v).run P w = .ok u w ∧ Rel E y u := by
  unfold loadA at hl
  cases hi : ti t with
  | none => simp [hi] at hl
  | some i =>
    obtain ⟨ht⟩ := tiOf_ok (hti t i hi)
    cases hc : cellsAt H x i.size with
    | none => simp [hi, hc] at hl
    | some l =>
      simp only [hi, hc] at hl
      obtain ⟨a, he, _⟩ := cellsAt_ok h hr hc
      subst he
      obtain ⟨u, hu, r⟩ := loadVar_ok h ht hr hc hl
      exact ⟨u, by simp [Instr.loadAt, Instr.sureAddr, hu], r⟩

/-! #### stores -/
def overlay (cs : List AV) (off : Nat) (xs : List AV) : List AV := cs.take off ++ xs ++ cs.drop (off + xs.length)

theorem overlay_length {cs xs : List AV} {off : Nat} (h : off + xs.length ≤ cs.length) : (overlay cs off xs).length = cs.length := by
  simp [overlay]; omega

theorem overlay_get {cs xs : List AV} {off : Nat} (h : off + xs.length ≤ cs.length) (j : Nat) :
    (overlay cs off xs)[j]? = if off ≤ j ∧ j < off + xs.length then xs[j - off]? else cs[j]? := by
  unfold overlay
  have h1 : (cs.take off).length = off := by simp; omega
  by_cases hj : j < off
  · rw [if_neg (by omega), List.append_assoc, List.getElem?_append_left (by omega), List.getElem?_take, if_pos hj]
  · by_cases hk : j < off + xs.length
    · rw [if_pos ⟨by omega, hk⟩, List.append_assoc, List.getElem?_append_right (by omega), h1, List.getElem?_append_left (by omega)]
    · rw [if_neg (by omega), List.getElem?_append_right (by simp; omega), List.getElem?_drop]
      congr 1
      simp; omega

def setMany (c : Array Value) : Nat → List Value → Array Value
  | _, [] => c
  | o, v :: r => setMany (c.setIfInBounds o v) (o + 1) r

theorem setMany_size : ∀ (vs : List Value) (o : Nat) (c : Array Value), (setMany c o vs).size = c.size
  | [], _, _ => rfl
  | v :: r, o, c => by rw [setMany, setMany_size]; simp

theorem setMany_get : ∀ (vs : List Value) (o : Nat) (c : Array Value) (k : Nat), o + vs.length ≤ c.size → (setMany c o vs)[k]? = if o ≤ k ∧ k < o + vs.length then vs[k - o]? else c[k]?
  | [], o, c, k, _ => by simp [setMany]; omega
  | v :: r, o, c, k, h => by
    simp only [List.length_cons] at h
    rw [setMany, setMany_get r (o + 1) _ k (by simp; omega)]
    by_cases hk : k = o
    · subst hk
      rw [if_neg (by omega), if_pos ⟨by omega, by simp⟩, Array.getElem?_setIfInBounds_self_of_lt (by omega)]
      simp
    · by_cases hin : o + 1 ≤ k ∧ k < o + 1 + r.length
      · rw [if_pos hin, if_pos ⟨by omega, by simp; omega⟩]
        rw [show k - o = (k - (o + 1)) + 1 by omega]
        simp
      · rw [if_neg hin, if_neg (by simp; omega), Array.getElem?_setIfInBounds_ne (by omega)]

theorem heap_setCells_same {b ty : Nat} {fr : Nat × Nat} : ∀ (vs : List Value) (o : Nat) (c : Array Value) (w : World), w.heap[b]? = some (.cells c ty fr) →
    (w.setCells b o vs).heap[b]? = some (.cells (setMany c o vs) ty fr)
  | [], _, _, _, h => h
  | v :: r, o, c, w, h => by
    rw [World.setCells, setMany]
    refine heap_setCells_same r (o + 1) _ _ ?_
    simp [World.setCell, Array.getElem?_modify, h]

theorem heap_setCells_other {b c : Nat} (hne : c ≠ b) : ∀ (vs : List Value) (o : Nat) (w : World), (w.setCells b o vs).heap[c]? = w.heap[c]?
  | [], _, _ => rfl
  | v :: r, o, w => by rw [World.setCells, heap_setCells_other hne r]; simp [World.setCell, Array.getElem?_modify]; omega

theorem setCells_rest (b : Nat) : ∀ (vs : List Value) (o : Nat) (w : World), (w.setCells b o vs).heap.size = w.heap.size ∧ (w.setCells b o vs).os = w.os ∧ (w.setCells b o vs).tape = w.tape ∧ (w.setCells b o vs).output = w.output
  | [], _, _ => ⟨rfl, rfl, rfl, rfl⟩
  | v :: r, o, w => by
    rw [World.setCells]
    obtain ⟨h1, h2, h3, h4⟩ := setCells_rest b r (o + 1) (w.setCell ⟨b, o, none⟩ v)
    exact ⟨by rw [h1]; simp [World.setCell], h2, h3, h4⟩

/-- Cells of a live block are written. -/
theorem St.storeCells (h : St B w0 E H w) {id b o n off : Nat} {cs xs : List AV} {ex : Bool} {vs : List Value} (hl : H.get id = some (.cells cs ex)) (he : E.ρ id = some (b, o, n))
    (hx : RelL E xs vs.toArray) (hin : off + xs.length ≤ cs.length) : St B w0 E (H.set id (some (.cells (overlay cs off xs) ex))) (w.setCells b (o + off) vs) := by
  obtain ⟨b', o', n', e, hb, hr, ok⟩ := h.live id _ hl
  rw [he] at e; cases e
  obtain ⟨c, ty, lo, hi, h1, h2, h3, h4, h5, h6⟩ := ok
  have hlen : vs.length = xs.length := by have := hx.len; simpa using this
  obtain ⟨r1, r2, r3, r4⟩ := setCells_rest b vs (o + off) w
  refine h.write hl he (fun k hk => heap_setCells_other hk vs _ w) r1 r2 r3 r4 ?_
  refine ⟨setMany c (o + off) vs, ty, lo, hi, heap_setCells_same vs _ c w h1, by rw [setMany_size]; exact h2, by rw [overlay_length hin]; exact h3, by rw [overlay_length hin]; exact h4, by rw [setMany_size]; exact h5, ?_⟩
  intro j x hj
  rw [overlay_get hin] at hj
  rw [setMany_get vs _ c _ (by omega)]
  split at hj
  · rename_i hjj
    rw [if_pos (by omega)]
    have hlt : j - off < vs.length := by omega
    refine ⟨vs[j - off], ?_, hx.at_ _ _ _ hj (by simp [hlt])⟩
    rw [show o + j - (o + off) = j - off by omega]
    simp [hlt]
  · rename_i hjj
    rw [if_neg (by omega)]
    exact h6 j x hj

def storeCellsA (H : Hp) (x : AV) (xs : List AV) : Option Hp :=
  match x with
  | .ptr id off => match H.get id with
    | some (.cells cs ex) => bif Nat.ble (off + xs.length) cs.length && xs.all AV.one then some (H.set id (some (.cells (overlay cs off xs) ex))) else none
    | _ => none
  | _ => none

theorem storeCellsA_ok {P : Program} (h : St B w0 E H w) {x : AV} {v : Value} {xs : List AV} {vs : Array Value} {H' : Hp} (hr : Rel E x v) (hx : RelL E xs vs) (hs : storeCellsA H x xs = some H') :
    ∃ a w', v = .pointer (some a) ∧ (Go.storeCells a vs.toList).run P w = .ok () w' ∧ St B w0 E H' w' := by
  cases hr <;> simp only [storeCellsA] at hs <;> try (cases hs)
  rename_i id off b o n hρ
  cases hg : H.get id with
  | none => simp [hg] at hs
  | some k =>
    cases k with
    | map => simp [hg] at hs
    | loop => simp [hg] at hs
    | cells cs ex =>
      simp only [hg] at hs
      cases hb : (Nat.ble (off + xs.length) cs.length && xs.all AV.one) with
      | false => simp [hb] at hs
      | true =>
        simp only [hb, cond_true, Option.some.injEq] at hs
        simp only [Bool.and_eq_true] at hb
        have hle := Nat.le_of_ble_eq_true hb.1
        have hlen : vs.toList.length = xs.length := by have := hx.len; simpa using this
        obtain ⟨b', o', n', e, hb', hr', ok⟩ := h.live id _ hg
        rw [hρ] at e; cases e
        obtain ⟨c, ty, lo, hi, h1, h2, h3, h4, h5, h6⟩ := ok
        have hst := run_storeCells_cells (P := P) b (o + off) vs.toList 0 w
          (fun j hj => by have := (h.frozen_live hg hρ (j := off + j) (by omega)).2; rwa [show o + off + 0 + j = o + (off + j) by omega])
          (fun j hj => by have := (h.frozen_live hg hρ (j := off + j) (by omega)).1; rwa [show o + off + 0 + j = o + (off + j) by omega])
          (hx.list hb.2 (fun x v r k => r.one k))
        subst hs
        exact ⟨_, _, rfl, hst, h.storeCells hg hρ (by simpa using hx) hle⟩
end

end Go.Proofs.Ytikcninaepoojaa.Ev
