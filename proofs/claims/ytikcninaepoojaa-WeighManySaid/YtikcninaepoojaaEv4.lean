/- Variables, structs, arrays and slices: what the operations do to abstract values. -/
import Derived.Test.YtikcninaepoojaaEv3
namespace Go.Proofs.Ytikcninaepoojaa.Ev
open Go.RowKit (Below)
set_option linter.unusedVariables false
set_option linter.unusedSimpArgs false

/-- An operation that yields a value. -/
def StepV (P : Program) (B : Nat) (w0 : Base) (E : Env) (s : Sem Value) (w : World) (x : AV) (H' : Hp) : Prop :=
  ∃ E' v w', s.run P w = .ok v w' ∧ E.Ext E' ∧ St B w0 E' H' w' ∧ Rel E' x v

section
variable {P : Program} {ti : Nat → Option TI} (hti : ∀ t i, ti t = some i → tiOf P t = some i)
variable {B : Nat} {w0 : Base} {E : Env} {H : Hp} {w : World}

theorem StepV.same (h : St B w0 E H w) {s : Sem Value} {v : Value} {x : AV} (hr : s.run P w = .ok v w) (hx : Rel E x v) : StepV P B w0 E s w x H :=
  ⟨E, v, w, hr, .refl E, h, hx⟩

/-! ### new variables -/
theorem St.row (h : St B w0 E H w) {xs : List AV} {c : Array Value} {ex : Bool} (ty lo hi : Nat) (hfr : hi ≤ lo ∨ c.size ≤ lo) (hlen : xs.length ≤ c.size) (hex : ex = true → xs.length = c.size)
    (hx : ∀ (j : Nat) (x : AV), xs[j]? = some x → ∃ v, c[j]? = some v ∧ Rel E x v) :
    ∃ E', E.Ext E' ∧ St B w0 E' (H.new (.cells xs ex)) { w with heap := w.heap.push (.cells c ty (lo, hi)) } ∧ E'.ρ H.n = some (w.heap.size, 0, c.size) := by
  have hext : E.Ext (E.put H.n (w.heap.size, 0, c.size)) := Env.ext_put (h.dom _ (Nat.le_refl _))
  obtain ⟨h1, h2⟩ := h.new (.cells c ty (lo, hi)) 0 c.size (.cells xs ex) ⟨c, ty, lo, hi, by simp, by simp, hlen, hex, hfr, fun j x hj => by
    obtain ⟨v, hv, r⟩ := hx j x hj
    exact ⟨v, by simpa using hv, r.ext hext⟩⟩
  exact ⟨_, h1, h2, by simp [Env.put]⟩

theorem St.rowOf (h : St B w0 E H w) {xs : List AV} {vs : Array Value} (hx : RelL E xs vs) (ty : Nat) :
    ∃ E', (newRow ty vs).run P w = .ok ⟨w.heap.size, 0, none⟩ { w with heap := w.heap.push (.cells vs ty) } ∧ E.Ext E' ∧ St B w0 E' (H.new (.cells xs true)) { w with heap := w.heap.push (.cells vs ty) } ∧
      E'.ρ H.n = some (w.heap.size, 0, xs.length) := by
  obtain ⟨E', h1, h2, h3⟩ := h.row (xs := xs) (c := vs) (ex := true) ty 0 0 (.inl (Nat.le_refl _)) (by have := hx.len; omega) (fun _ => by have := hx.len; omega) (fun j x hj => by
    have hlt : j < vs.size := by have := hx.len; have := (List.getElem?_eq_some_iff.1 hj).1; omega
    exact ⟨vs[j], by simp [hlt], hx.at_ j x _ hj (by simp [hlt])⟩)
  refine ⟨E', ?_, h1, h2, by rw [h3, hx.len]⟩
  simp [newRow]

theorem rel_zero {t : Nat} {i : TI} (ht : TIok P t i) : RelL E (i.zero.map .lit) ht.z.cells := by
  have := ht.he
  refine ⟨by simp [this], fun j x v hx hv => ?_⟩
  rw [this] at hx
  simp only [List.getElem?_map, Option.map_eq_some_iff] at hx
  obtain ⟨u, h1, rfl⟩ := hx
  rw [Array.getElem?_toList, hv] at h1
  cases h1
  exact .lit _

def allocA (ti : Nat → Option TI) (H : Hp) (t : Nat) : Option (AV × Hp) :=
  match ti t with
  | some i => some (.ptr H.n 0, H.new (.cells (i.zero.map .lit) true))
  | none => none

include hti in
theorem allocA_ok (h : St B w0 E H w) {t : Nat} {x : AV} {H' : Hp} (ha : allocA ti H t = some (x, H')) : StepV P B w0 E (Instr.alloc t true (.tuple #[])) w x H' := by
  unfold allocA at ha
  cases hi : ti t with
  | none => simp [hi] at ha
  | some i =>
    simp [hi] at ha
    obtain ⟨rfl, rfl⟩ := ha
    obtain ⟨ht⟩ := tiOf_ok (hti t i hi)
    obtain ⟨E', h1, h2, h3, h4⟩ := h.rowOf (P := P) (rel_zero (E := E) ht) t
    refine ⟨E', .pointer (some ⟨w.heap.size, 0, none⟩), _, ?_, h2, h3, by simpa using Rel.ptr (off := 0) h4⟩
    simp only [Instr.alloc, Sem.run_bind, ht.zeroValue, Result.andThen, newVar, h1]
    rfl

theorem box_ok (h : St B w0 E H w) {t : Nat} {x : AV} {v : Value} (hx : Rel E x v) (ha : x.isAny = false) : StepV P B w0 E (Instr.box t v) w (.ptr H.n 0) (H.new (.cells x.cells true)) := by
  obtain ⟨E', h1, h2, h3, h4⟩ := h.rowOf (P := P) (hx.cells ha) t
  refine ⟨E', .pointer (some ⟨w.heap.size, 0, none⟩), _, ?_, h2, h3, by simpa using Rel.ptr (off := 0) h4⟩
  simp [Instr.box, newVar, h1, Result.andThen]

/-! ### structs and arrays by value -/
def fillA (place : Nat → Option (Nat × Nat)) (cs : List AV) : List (Nat × AV) → Option (List AV)
  | [] => some cs
  | (i, x) :: rest =>
    match place i with
    | none => none
    | some (off, size) => bif Nat.beq x.cells.length size && (Nat.ble (off + x.cells.length) cs.length && !x.isAny) then fillA place (overlay cs off x.cells) rest else none

theorem foldl_zipIdx (off : Nat) : ∀ (l : List Value) (k : Nat) (c : Array Value), (l.zipIdx k).foldl (fun cs (p : Value × Nat) => cs.setIfInBounds (off + p.2) p.1) c = setMany c (off + k) l
  | [], _, _ => rfl
  | v :: r, k, c => by
    simp only [List.zipIdx_cons, List.foldl_cons, setMany]
    rw [foldl_zipIdx off r (k + 1)]
    rfl

theorem relL_overlay {xs ys : List AV} {vs : Array Value} {us : List Value} {off : Nat} (hx : RelL E xs vs) (hy : RelL E ys us.toArray) (hin : off + ys.length ≤ xs.length) :
    RelL E (overlay xs off ys) (setMany vs off us) := by
  have hlen : us.length = ys.length := by have := hy.len; simpa using this
  have hl := hx.len
  refine ⟨by rw [setMany_size, overlay_length hin]; exact hx.len, fun j x v hj hv => ?_⟩
  rw [overlay_get hin] at hj
  rw [setMany_get us off vs j (by omega)] at hv
  split at hj
  · rename_i hjj
    rw [if_pos (by omega)] at hv
    exact hy.at_ _ _ _ hj (by simpa using hv)
  · rename_i hjj
    rw [if_neg (by omega)] at hv
    exact hx.at_ _ _ _ hj hv

inductive Pairs (E : Env) : List (Nat × AV) → List (Nat × Value) → Prop where
  | nil : Pairs E [] []
  | cons {p : Nat × AV} {q : Nat × Value} {ps : List (Nat × AV)} {qs : List (Nat × Value)} (h : p.1 = q.1 ∧ Rel E p.2 q.2) (hs : Pairs E ps qs) : Pairs E (p :: ps) (q :: qs)

theorem fill_ok {place : Nat → Option (Nat × Nat)} : ∀ (ps : List (Nat × AV)) (qs : List (Nat × Value)) (xs : List AV) (vs : Array Value) {ys : List AV}, RelL E xs vs →
    Pairs E ps qs → fillA place xs ps = some ys → ∃ us, Instr.fill place vs qs = some us ∧ RelL E ys us
  | [], _, xs, vs, ys, hx, hf, hfill => by
    cases hf
    simp only [fillA, Option.some.injEq] at hfill
    subst hfill
    exact ⟨vs, rfl, hx⟩
  | (i, x) :: rest, _, xs, vs, ys, hx, hf, hfill => by
    cases hf with
    | cons h1 h2 =>
      rename_i q qs
      obtain ⟨j, v⟩ := q
      obtain ⟨rfl, hr⟩ := h1
      simp only [fillA] at hfill
      cases hp : place i with
      | none => simp [hp] at hfill
      | some p =>
        obtain ⟨off, size⟩ := p
        simp only [hp] at hfill
        cases hb : (Nat.beq x.cells.length size && (Nat.ble (off + x.cells.length) xs.length && !x.isAny)) with
        | false => simp only [hb, cond_false] at hfill; cases hfill
        | true =>
          simp only [hb, cond_true] at hfill
          simp only [Bool.and_eq_true, Bool.not_eq_true'] at hb
          have e1 := Nat.eq_of_beq_eq_true hb.1
          have e2 := Nat.le_of_ble_eq_true hb.2.1
          have hc := hr.cells hb.2.2
          have hcl : v.cells.size = x.cells.length := hc.len
          have hxl := hx.len
          obtain ⟨us, h3, h4⟩ := fill_ok rest qs _ (setMany vs off v.cells.toList) (relL_overlay hx (by simpa using hc) e2) h2 hfill
          refine ⟨us, ?_, h4⟩
          have hz : (v.cells.zipIdx.foldl (fun cs (c, j) => cs.setIfInBounds (off + j) c) vs) = setMany vs off v.cells.toList := by
            rw [← Array.foldl_toList, Array.toList_zipIdx]
            exact foldl_zipIdx off _ 0 vs
          simp only [Instr.fill, hp]
          rw [if_neg (by simp; omega), hz]
          exact h3

def placesA (ti : Nat → Option TI) : List (Nat × Nat) → Option (List (Nat × Nat))
  | [] => some []
  | (off, t) :: r => match ti t, placesA ti r with
    | some i, some l => some ((off, i.size) :: l)
    | _, _ => none

include hti in
theorem places_ok : ∀ (fs : List Field) {l : List (Nat × Nat)}, placesA ti (fs.map fun f => (f.offset, f.type)) = some l → ∀ w : World,
    (fs.mapM (fun f => Prod.mk f.offset <$> sizeOf f.type) : Sem (List (Nat × Nat))).run P w = .ok l w
  | [], l, h, w => by simp [placesA] at h; subst h; rfl
  | f :: r, l, h, w => by
    simp only [List.map_cons, placesA] at h
    cases hi : ti f.type with
    | none => simp [hi] at h
    | some i =>
      cases hr : placesA ti (r.map fun f => (f.offset, f.type)) with
      | none => simp [hi, hr] at h
      | some l' =>
        simp [hi, hr] at h
        subst h
        obtain ⟨ht⟩ := tiOf_ok (hti _ i hi)
        simp [List.mapM_cons, ht.sizeOf, places_ok r hr w]

def placeOf (ti : Nat → Option TI) (d : TD) : Option (Nat → Option (Nat × Nat)) :=
  match d with
  | .struct fs => match placesA ti fs with
    | some l => some (fun j => l[j]?)
    | none => none
  | .array _ e => match ti e with
    | some i => some (fun j => some (j * i.size, i.size))
    | none => none
  | _ => none

def buildA (ti : Nat → Option TI) (t : Nat) (ps : List (Nat × AV)) : Option AV :=
  match ti t with
  | some i => match placeOf ti i.d with
    | some place => (fillA place (i.zero.map .lit) ps).map .agg
    | none => none
  | none => none

include hti in
theorem buildA_ok {t : Nat} {ps : List (Nat × AV)} {qs : Array (Nat × Value)} (hf : Pairs E ps qs.toList) {x : AV} (hb : buildA ti t ps = some x) (w : World) :
    ∃ v, (Instr.build t qs).run P w = .ok v w ∧ Rel E x v := by
  unfold buildA at hb
  cases hi : ti t with
  | none => simp [hi] at hb
  | some i =>
    obtain ⟨ht⟩ := tiOf_ok (hti _ i hi)
    have he := ht.he
    simp only [hi] at hb
    cases hp : placeOf ti i.d with
    | none => simp [hp] at hb
    | some place =>
      simp only [hp, Option.map_eq_some_iff] at hb
      obtain ⟨ys, hy, rfl⟩ := hb
      obtain ⟨us, h1, h2⟩ := fill_ok ps qs.toList _ _ (rel_zero (E := E) ht) hf hy
      refine ⟨.agg us, ?_, .agg h2.len h2.at_⟩
      simp only [Instr.build, Sem.run_bind, ht.zeroValue, Result.andThen, Sem.run_pure, ht.underlying]
      rw [he] at hp
      cases hd : ht.d <;> rw [hd] at hp <;> simp only [TD.of, placeOf] at hp <;> try (cases hp)
      case struct fs =>
        cases hl : placesA ti (fs.toList.map fun f => (f.offset, f.type)) with
        | none => simp [hl] at hp
        | some l =>
          simp only [hl, Option.some.injEq] at hp
          have hm : (fs.mapM (fun f => do pure (f.offset, ← sizeOf f.type)) : Sem (Array (Nat × Nat))).run P w = .ok l.toArray w := by
            rw [Array.mapM_eq_mapM_toList]
            simp [places_ok hti fs.toList hl w]
          simp only [Sem.run_bind, hm, Result.andThen]
          have : (fun x => l.toArray[x]?) = place := by rw [← hp]; funext j; simp
          rw [this, h1]
          rfl
      case array n e =>
        cases hi2 : ti e with
        | none => simp [hi2] at hp
        | some i2 =>
          obtain ⟨ht2⟩ := tiOf_ok (hti _ i2 hi2)
          simp only [hi2, Option.some.injEq] at hp
          simp only [Sem.run_bind, ht2.sizeOf, Result.andThen]
          rw [hp, h1]
          rfl

def partA (ti : Nat → Option TI) (t : Nat) (cs : List AV) (off : Nat) : Option AV :=
  match ti t with
  | some i => bif i.d.agg then some (.agg ((cs.drop off).take i.size)) else cs[off]?
  | none => none

include hti in
theorem partA_ok {t : Nat} {cs : List AV} {vs : Array Value} {off : Nat} (hx : RelL E cs vs) {y : AV} (hp : partA ti t cs off = some y) (w : World) : ∃ u, (part t vs off).run P w = .ok u w ∧ Rel E y u := by
  unfold partA at hp
  cases hi : ti t with
  | none => simp [hi] at hp
  | some i =>
    obtain ⟨ht⟩ := tiOf_ok (hti _ i hi)
    simp only [hi] at hp
    have hl := hx.len
    unfold part
    simp only [Sem.run_bind, ht.isAgg, Result.andThen]
    cases hg : i.d.agg with
    | true =>
      simp only [hg, cond_true, Option.some.injEq] at hp
      subst hp
      refine ⟨.agg (vs.extract off (off + i.size)), by simp [ht.sizeOf], .agg ?_ ?_⟩
      · simp; omega
      · intro j x v hj hv
        rw [List.getElem?_take] at hj
        split at hj
        · rw [List.getElem?_drop] at hj
          rw [Array.getElem?_extract] at hv
          split at hv
          · exact hx.at_ _ _ _ hj hv
          · cases hv
        · cases hj
    | false =>
      simp only [hg, cond_false] at hp
      have hlt := (List.getElem?_eq_some_iff.1 hp).1
      refine ⟨vs[off], by simp [show off < vs.size by omega], hx.at_ _ _ _ hp (by simp [show off < vs.size by omega])⟩

def fieldA (ti : Nat → Option TI) (t : Nat) (x : AV) (f : Nat) : Option AV :=
  match ti t with
  | some ⟨.struct fs, _, _, _⟩ => match fs[f]? with
    | some (off, ft) => match x with
      | .agg cs => partA ti ft cs off
      | .lit (.agg vs) => partA ti ft (vs.toList.map .lit) off
      | _ => none
    | none => none
  | _ => none

theorem TIok.struct {t : Nat} {fs : List (Nat × Nat)} {a b : Nat} {z : List Value} (ht : TIok P t ⟨.struct fs, a, b, z⟩) : ∃ gs : Array Field, ht.d = .struct gs ∧ fs = gs.toList.map fun f => (f.offset, f.type) := by
  have := ht.he
  cases hd : ht.d <;> rw [hd] at this <;> simp [TD.of] at this
  exact ⟨_, rfl, this.1⟩

theorem TIok.array {t n e : Nat} {a b : Nat} {z : List Value} (ht : TIok P t ⟨.array n e, a, b, z⟩) : ht.d = .array n e := by
  have := ht.he
  cases hd : ht.d <;> rw [hd] at this <;> simp [TD.of] at this
  obtain ⟨⟨rfl, rfl⟩, _⟩ := this
  rfl

theorem TIok.slice {t e : Nat} {a b : Nat} {z : List Value} (ht : TIok P t ⟨.slice e, a, b, z⟩) : ht.d = .slice e := by
  have := ht.he
  cases hd : ht.d <;> rw [hd] at this <;> simp [TD.of] at this
  obtain ⟨rfl, _⟩ := this
  rfl

theorem TIok.string {t : Nat} {a b : Nat} {z : List Value} (ht : TIok P t ⟨.string, a, b, z⟩) : ht.d = .string := by
  have := ht.he
  cases hd : ht.d <;> rw [hd] at this <;> simp [TD.of] at this

theorem TIok.int {t : Nat} {k : IntKind} {a b : Nat} {z : List Value} (ht : TIok P t ⟨.int k, a, b, z⟩) : ht.d = .int k := by
  have := ht.he
  cases hd : ht.d <;> rw [hd] at this <;> simp [TD.of] at this
  obtain ⟨rfl, _⟩ := this
  rfl

theorem TIok.ptr {t e : Nat} {a b : Nat} {z : List Value} (ht : TIok P t ⟨.ptr e, a, b, z⟩) : ht.d = .pointer e := by
  have := ht.he
  cases hd : ht.d <;> rw [hd] at this <;> simp [TD.of] at this
  obtain ⟨rfl, _⟩ := this
  rfl

theorem TIok.func {t : Nat} {a b : Nat} {z : List Value} (ht : TIok P t ⟨.func, a, b, z⟩) : ∃ x y v, ht.d = .func x y v := by
  have := ht.he
  cases hd : ht.d <;> rw [hd] at this <;> simp [TD.of] at this
  exact ⟨_, _, _, rfl⟩

theorem relL_lits (vs : Array Value) : RelL E (vs.toList.map .lit) vs := by
  refine ⟨by simp, fun j x v hx hv => ?_⟩
  simp only [List.getElem?_map, Option.map_eq_some_iff] at hx
  obtain ⟨u, h1, rfl⟩ := hx
  rw [Array.getElem?_toList, hv] at h1
  cases h1
  exact .lit _

include hti in
theorem fieldA_ok {t f : Nat} {x y : AV} {v : Value} (hx : Rel E x v) (hf : fieldA ti t x f = some y) (w : World) : ∃ u, (Instr.field t v f).run P w = .ok u w ∧ Rel E y u := by
  unfold fieldA at hf
  split at hf
  · rename_i fs a b z hi
    obtain ⟨ht⟩ := tiOf_ok (hti _ _ hi)
    obtain ⟨gs, hd, rfl⟩ := ht.struct
    split at hf
    · rename_i off ft hfs
      simp only [List.getElem?_map, Option.map_eq_some_iff, Array.getElem?_toList] at hfs
      obtain ⟨g, hg, hgg⟩ := hfs
      simp only [Prod.mk.injEq] at hgg
      obtain ⟨rfl, rfl⟩ := hgg
      have fin : ∀ (cs : List AV) (vs : Array Value), v = .agg vs → RelL E cs vs → partA ti g.type cs g.offset = some y → ∃ u, (Instr.field t v f).run P w = .ok u w ∧ Rel E y u := by
        intro cs vs hv hr hp
        obtain ⟨u, h1, h2⟩ := partA_ok hti hr hp w
        refine ⟨u, ?_, h2⟩
        subst hv
        simp [Instr.field, ht.underlying, hd, hg, asAgg, h1]
      split at hf
      · cases hx with
        | agg hl h => exact fin _ _ rfl ⟨hl, h⟩ hf
      · cases hx with
        | lit => exact fin _ _ rfl (relL_lits _) hf
      · cases hf
    · cases hf
  · cases hf

def intA : AV → Option Int
  | .lit (.int _ n) => some n
  | _ => none

theorem intA_ok {x : AV} {v : Value} {n : Int} (hx : Rel E x v) (h : intA x = some n) : ∃ k, v = .int k n := by
  unfold intA at h
  split at h
  · cases hx; cases h; exact ⟨_, rfl⟩
  · cases h

def indexA (ti : Nat → Option TI) (t : Nat) (x ix : AV) : Option AV :=
  match intA ix, ti t with
  | some n, some ⟨.array len e, _, _, _⟩ => bif decide (0 ≤ n) && decide (n < len) then
      match ti e with
      | some j => match x with
        | .agg cs => partA ti e cs (n.toNat * j.size)
        | .lit (.agg vs) => partA ti e (vs.toList.map .lit) (n.toNat * j.size)
        | _ => none
      | none => none
    else none
  | some n, some ⟨.string, _, _, _⟩ => match x with
    | .lit (.string s) => bif decide (0 ≤ n) then (s.data.toList[n.toNat]?).map fun b => .lit (.int .u8 b.toNat) else none
    | _ => none
  | _, _ => none

include hti in
theorem indexA_ok {t : Nat} {x ix y : AV} {v vi : Value} (hx : Rel E x v) (hi : Rel E ix vi) (hf : indexA ti t x ix = some y) (w : World) : ∃ u, (Instr.index t v vi).run P w = .ok u w ∧ Rel E y u := by
  unfold indexA at hf
  split at hf
  · rename_i n len e a b z hn htt
    obtain ⟨k, rfl⟩ := intA_ok hi hn
    obtain ⟨ht⟩ := tiOf_ok (hti _ _ htt)
    have hd := ht.array
    cases hb : (decide (0 ≤ n) && decide (n < (len : Int))) with
    | false => simp only [hb, cond_false] at hf; cases hf
    | true =>
      simp only [hb, cond_true] at hf
      simp only [Bool.and_eq_true, decide_eq_true_eq] at hb
      split at hf
      · rename_i j hj
        obtain ⟨ht2⟩ := tiOf_ok (hti _ _ hj)
        have fin : ∀ (cs : List AV) (vs : Array Value), v = .agg vs → RelL E cs vs → partA ti e cs (n.toNat * j.size) = some y → ∃ u, (Instr.index t v (.int k n)).run P w = .ok u w ∧ Rel E y u := by
          intro cs vs hv hr hp
          obtain ⟨u, h1, h2⟩ := partA_ok hti hr hp w
          refine ⟨u, ?_, h2⟩
          subst hv
          simp [Instr.index, asIntOf, ht.underlying, hd, hb, ht2.sizeOf, h1]
        split at hf
        · cases hx with
          | agg hl h => exact fin _ _ rfl ⟨hl, h⟩ hf
        · cases hx with
          | lit => exact fin _ _ rfl (relL_lits _) hf
        · cases hf
      · cases hf
  · rename_i n a b z hn htt
    obtain ⟨k, rfl⟩ := intA_ok hi hn
    obtain ⟨ht⟩ := tiOf_ok (hti _ _ htt)
    have hd := ht.string
    split at hf
    · rename_i s
      cases hx
      cases hb : decide (0 ≤ n) with
      | false => simp only [hb, cond_false] at hf; cases hf
      | true =>
        simp only [hb, cond_true, Option.map_eq_some_iff] at hf
        simp only [decide_eq_true_eq] at hb
        obtain ⟨c, hc, rfl⟩ := hf
        refine ⟨_, ?_, .lit _⟩
        have : s[n.toNat]? = some c := by
          have hlt := (List.getElem?_eq_some_iff.1 hc)
          obtain ⟨h1, h2⟩ := hlt
          have hs : n.toNat < s.size := by simpa using h1
          rw [getElem?_pos s n.toNat hs]
          rw [← h2]; rfl
        simp [Instr.index, asIntOf, ht.underlying, hd, hb, this]
    · cases hf
  · cases hf
end
end Go.Proofs.Ytikcninaepoojaa.Ev
