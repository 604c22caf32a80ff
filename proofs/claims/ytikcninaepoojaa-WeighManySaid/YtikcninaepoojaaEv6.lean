/- New rows: literals, make, append, conversions. -/
import Derived.Test.YtikcninaepoojaaEv5
namespace Go.Proofs.Ytikcninaepoojaa.Ev
open Go.RowKit (Below)
set_option linter.unusedVariables false
set_option linter.unusedSimpArgs false
set_option linter.unusedSectionVars false

section
variable {P : Program} {ti : Nat → Option TI} (hti : ∀ t i, ti t = some i → tiOf P t = some i)
variable {B : Nat} {w0 : Base} {E : Env} {H : Hp} {w : World}

def zeroRow (i : TI) (n : Nat) : List AV := (List.range n).map fun j => .lit (i.zero.toArray[j % i.zero.toArray.size]!)

theorem rel_zeroRow {t : Nat} {i : TI} (ht : TIok P t i) (n : Nat) (z : Array Value) (hz : z = ht.z.cells ∨ n = 0) : RelL E (zeroRow i n) ((Array.range n).map (z[· % z.size]!)) := by
  have he := ht.he
  rcases hz with rfl | rfl
  · refine ⟨by simp [zeroRow], fun j x v hx hv => ?_⟩
    simp only [zeroRow, List.getElem?_map, Option.map_eq_some_iff] at hx
    simp only [Array.getElem?_map, Option.map_eq_some_iff] at hv
    obtain ⟨a, h1, rfl⟩ := hx
    obtain ⟨b, h2, rfl⟩ := hv
    have hj : j < n := by
      have := (List.getElem?_eq_some_iff.1 h1).1
      simpa using this
    have e1 : a = j := by rw [List.getElem?_range hj] at h1; injection h1 with h1; exact h1.symm
    have e2 : b = j := by
      have := (Array.getElem?_eq_some_iff.1 h2).2
      simpa using this.symm
    rw [e1, e2, ht.zero_eq]
    exact .lit _
  · exact ⟨by simp [zeroRow], fun j x v hx => by simp [zeroRow] at hx⟩

theorem run_zeroIf {α : Type} {e : Nat} {i : TI} (ht : TIok P e i) (c : Prop) [Decidable c] (K : Array Value → Sem α) (w : World) :
    ((if c then (do let zero ← pure #[]; K zero) else (do let z ← zeroValue e; let zero ← pure z.cells; K zero) : Sem α)).run P w = (K (if c then #[] else ht.z.cells)).run P w := by
  by_cases hc : c
  · simp [hc]
  · simp [hc, ht.zeroValue]

def buildSliceA (ti : Nat → Option TI) (H : Hp) (t len : Nat) (ps : List (Nat × AV)) : Option (AV × Hp) :=
  match ti t with
  | some ⟨.slice e, _, _, _⟩ => match ti e with
    | some i => bif Nat.ble (len * i.size) 16777216 then
        match fillA (fun j => some (j * i.size, i.size)) (zeroRow i (len * i.size)) ps with
        | some cs => bif Nat.beq cs.length (len * i.size) then some (.sl H.n 0 i.size len (some len), H.new (.cells cs true)) else none
        | none => none
      else none
    | none => none
  | _ => none

include hti in
theorem buildSliceA_ok (h : St B w0 E H w) {t len : Nat} {ps : List (Nat × AV)} {qs : Array (Nat × Value)} (hf : Pairs E ps qs.toList) {x : AV} {H' : Hp} (hb : buildSliceA ti H t len ps = some (x, H')) :
    StepV P B w0 E (Instr.buildSlice t len qs) w x H' := by
  unfold buildSliceA at hb
  split at hb
  · rename_i e a b z htt
    obtain ⟨ht⟩ := tiOf_ok (hti _ _ htt)
    have hd := ht.slice
    split at hb
    · rename_i i hi
      obtain ⟨ht2⟩ := tiOf_ok (hti _ _ hi)
      cases hbb : Nat.ble (len * i.size) 16777216 with
      | false => simp only [hbb, cond_false] at hb; cases hb
      | true =>
        simp only [hbb, cond_true] at hb
        have hle := Nat.le_of_ble_eq_true hbb
        split at hb
        · rename_i cs hcs
          cases hc : Nat.beq cs.length (len * i.size) with
          | false => simp only [hc, cond_false] at hb; cases hb
          | true =>
            simp only [hc, cond_true, Option.some.injEq, Prod.mk.injEq] at hb
            obtain ⟨rfl, rfl⟩ := hb
            have hc := Nat.eq_of_beq_eq_true hc
            have hz2 : (if len * i.size = 0 then #[] else ht2.z.cells) = ht2.z.cells ∨ len * i.size = 0 := by
              by_cases h0 : len * i.size = 0
              · exact .inr h0
              · exact .inl (if_neg h0)
            obtain ⟨us, h1, h2⟩ := fill_ok ps qs.toList _ _ (rel_zeroRow (E := E) ht2 (len * i.size) _ hz2) hf hcs
            obtain ⟨E', g1, g2, g3, g4⟩ := h.rowOf (P := P) h2 e
            refine ⟨E', .slice (some ⟨w.heap.size, 0, none⟩) len len, _, ?_, g2, g3, ?_⟩
            · have hn : ¬ (len * i.size > 2 ^ 24) := by simp; omega
              simp only [Instr.buildSlice, Sem.run_bind, ht.underlying, hd, Result.andThen, ht2.sizeOf, hn, if_false]
              rw [run_zeroIf ht2]
              simp only [h1, Sem.run_bind, Result.andThen, g1, Sem.run_pure]
            · have := Rel.sl (E := E') (off := 0) (sz := i.size) (len := len) (c := len) (cap := some len) g4 (fun k hk => by cases hk; rfl) (Nat.le_refl _) (by omega)
              simpa using this
        · cases hb
    · cases hb
  · cases hb

def makeSliceA (ti : Nat → Option TI) (H : Hp) (t : Nat) (l c : AV) : Option (AV × Hp) :=
  match ti t, intA l, intA c with
  | some ⟨.slice e, _, _, _⟩, some l, some c => match ti e with
    | some i => bif decide (0 ≤ l) && (decide (l ≤ c) && (Nat.ble c.toNat 9223372036854775807 && Nat.ble (i.bytes * c.toNat) 281474976710656)) then
        some (.sl H.n 0 i.size l.toNat (some c.toNat), H.new (.cells (zeroRow i (c.toNat * i.size)) true))
      else none
    | none => none
  | _, _, _ => none

include hti in
theorem makeSliceA_ok (h : St B w0 E H w) {t : Nat} {l c : AV} {vl vc : Value} (hl : Rel E l vl) (hc : Rel E c vc) {x : AV} {H' : Hp} (hb : makeSliceA ti H t l c = some (x, H')) :
    StepV P B w0 E (Instr.makeSlice t vl vc) w x H' := by
  unfold makeSliceA at hb
  split at hb
  · rename_i e a b z l' c' htt hl' hc'
    obtain ⟨ht⟩ := tiOf_ok (hti _ _ htt)
    have hd := ht.slice
    obtain ⟨kl, rfl⟩ := intA_ok hl hl'
    obtain ⟨kc, rfl⟩ := intA_ok hc hc'
    split at hb
    · rename_i i hi
      obtain ⟨ht2⟩ := tiOf_ok (hti _ _ hi)
      have hby := ht2.bytes_eq
      cases hbb : (decide (0 ≤ l') && (decide (l' ≤ c') && (Nat.ble c'.toNat 9223372036854775807 && Nat.ble (i.bytes * c'.toNat) 281474976710656))) with
      | false => simp only [hbb, cond_false] at hb; cases hb
      | true =>
        simp only [hbb, cond_true, Option.some.injEq, Prod.mk.injEq] at hb
        obtain ⟨rfl, rfl⟩ := hb
        simp only [Bool.and_eq_true, decide_eq_true_eq] at hbb
        obtain ⟨h1, h2, h3, h4⟩ := hbb
        have h3 := Nat.le_of_ble_eq_true h3
        have h4 := Nat.le_of_ble_eq_true h4
        have el : IntKind.i64.wrap l' = l' := wrap_i64_in (by omega) (by omega)
        have ec : IntKind.i64.wrap c' = c' := wrap_i64_in (by omega) (by omega)
        have hz2 : (if c'.toNat * i.size = 0 then #[] else ht2.z.cells) = ht2.z.cells ∨ c'.toNat * i.size = 0 := by
          by_cases h0 : c'.toNat * i.size = 0
          · exact .inr h0
          · exact .inl (if_neg h0)
        obtain ⟨E', g1, g2, g3, g4⟩ := h.rowOf (P := P) (rel_zeroRow (E := E) ht2 (c'.toNat * i.size) _ hz2) e
        refine ⟨E', .slice (some ⟨w.heap.size, 0, none⟩) l'.toNat c'.toNat, _, ?_, g2, g3, ?_⟩
        · have hcast : ((i.bytes * c'.toNat : Nat) : Int) = (i.bytes : Int) * c' := by
            rw [Int.natCast_mul, Int.toNat_of_nonneg (by omega)]
          have hbig : ¬ ((i.bytes : Int) * c' > 2 ^ 48) := by
            rw [← hcast]
            have : (2 : Int) ^ 48 = 281474976710656 := by decide
            omega
          have hneg : ¬ (c' < 0) := by omega
          have hneg2 : ¬ (l' < 0) := by omega
          have hgt : ¬ (l' > c') := by omega
          simp only [Instr.makeSlice, Sem.run_bind, ht.underlying, hd, Result.andThen, asInt, asIntOf, Sem.run_pure, ht2.typeInfo, el, ec, hby, hneg, hneg2, hgt, hbig, decide_false, Bool.or_self, Bool.or_false, Bool.false_eq_true, if_false, run_askRoom, ht2.sizeOf]
          rw [run_zeroIf ht2]
          simp only [Sem.run_bind, Result.andThen, g1, Sem.run_pure]
        · have := Rel.sl (E := E') (off := 0) (sz := i.size) (len := l'.toNat) (c := c'.toNat) (cap := some c'.toNat) g4 (fun k hk => by cases hk; rfl) (by omega) (by simp [zeroRow])
          simpa using this
    · cases hb
  · cases hb

/-! ### append -/
def srcA (H : Hp) (size : Nat) (x : AV) : Option (Nat × List AV) :=
  match x with
  | .lit (.slice none 0 _) => some (0, [])
  | .emp => some (0, [])
  | .sl id off sz len _ => match H.get id with
    | some (.cells cs _) => bif Nat.beq sz size && Nat.beq ((cs.drop off).take (len * sz)).length (len * sz) then some (len, (cs.drop off).take (len * sz)) else none
    | _ => none
  | .imm sz xs => bif Nat.beq sz size then some (xs.length, xs.flatten) else none
  | .lit (.string s) => bif Nat.beq size 1 then some (s.data.size, s.data.toList.map fun b => .lit (.int .u8 b.toNat)) else none
  | _ => none

theorem flatten_get {sz : Nat} : ∀ (xs : List (List AV)), (∀ (i : Nat) (cs : List AV), xs[i]? = some cs → cs.length = sz) → xs.flatten.length = xs.length * sz ∧
    ∀ (k : Nat) (x : AV), xs.flatten[k]? = some x → ∃ i j cs, k = i * sz + j ∧ xs[i]? = some cs ∧ cs[j]? = some x
  | [], _ => ⟨by simp, fun k x hk => by simp at hk⟩
  | c :: r, h => by
    have hc : c.length = sz := h 0 c rfl
    obtain ⟨h1, h2⟩ := flatten_get r (fun i cs hi => h (i + 1) cs hi)
    refine ⟨by simp [h1, hc, Nat.add_mul, Nat.add_comm], fun k x hk => ?_⟩
    rw [List.flatten_cons] at hk
    by_cases hkc : k < c.length
    · rw [List.getElem?_append_left hkc] at hk
      exact ⟨0, k, c, by omega, rfl, hk⟩
    · rw [List.getElem?_append_right (by omega)] at hk
      obtain ⟨i, j, cs, e, hi, hj⟩ := h2 _ _ hk
      exact ⟨i + 1, j, cs, by rw [Nat.add_mul]; omega, hi, hj⟩

theorem srcA_ok (h : St B w0 E H w) {size n tx : Nat} {x : AV} {v : Value} {l : List AV} (hx : Rel E x v) (hs : srcA H size x = some (n, l)) (h1 : l.all AV.one = true)
    (hk : (∃ e', P.underlying tx = some (.slice e') ∧ ∀ s, v ≠ .string s) ∨ (P.underlying tx = some .string ∧ ∃ s, v = .string s)) :
    ∃ news : List Value, Src P size tx v n news w ∧ RelL E l news.toArray := by
  have one : ∀ {news : List Value}, RelL E l news.toArray → ∀ u ∈ news, u.oneCell' = true := fun hr u hu => hr.list h1 (fun x v r k => r.one k) u (by simpa using hu)
  cases hx with
  | lit v =>
    cases v <;> simp only [srcA] at hs <;> try (cases hs)
    case string s =>
      rcases hk with ⟨e', _, hne⟩ | ⟨hk, _⟩
      · exact absurd rfl (hne s)
      · cases hb : Nat.beq size 1 with
        | false => simp only [hb, cond_false] at hs; cases hs
        | true =>
          simp only [hb, cond_true, Option.some.injEq, Prod.mk.injEq] at hs
          have hb := Nat.eq_of_beq_eq_true hb
          subst hb
          obtain ⟨rfl, rfl⟩ := hs
          refine ⟨byteCells s, Src.ofString w hk s, ⟨by simp [byteCells], fun j x v hx hv => ?_⟩⟩
          simp only [List.getElem?_map, Option.map_eq_some_iff] at hx
          obtain ⟨b, hb, rfl⟩ := hx
          simp only [byteCells, List.getElem?_toArray, List.getElem?_map, Option.map_eq_some_iff] at hv
          obtain ⟨b', hb', rfl⟩ := hv
          rw [hb] at hb'; cases hb'
          exact .lit _
    case slice a len cap =>
      rcases hk with ⟨e', hk, _⟩ | ⟨_, s, hs'⟩
      · split at hs
        · rename_i heq
          cases heq
          cases hs
          exact ⟨[], Src.ofNil w hk _, ⟨rfl, fun j x v hx => by simp at hx⟩⟩
        all_goals first | (rename_i heq; cases heq; done) | (cases hs; done) | (rename_i heq _; cases heq; done)
      · cases hs'
  | emp =>
    rename_i a
    rcases hk with ⟨e', hk, _⟩ | ⟨_, s, hs'⟩
    · simp only [srcA, Option.some.injEq, Prod.mk.injEq] at hs
      obtain ⟨rfl, rfl⟩ := hs
      cases a with
      | none => exact ⟨[], Src.ofNil w hk _, ⟨rfl, fun j x v hx => by simp at hx⟩⟩
      | some a => exact ⟨[], Src.ofSlice w hk a 0 0 [] (by simp) (fun j u hu => by simp at hu) (fun u hu => by simp at hu), ⟨rfl, fun j x v hx => by simp at hx⟩⟩
    · cases hs'
  | sl hρ hc hl hn =>
    rename_i id off sz len b o n' c cap
    rcases hk with ⟨e', hk, _⟩ | ⟨_, s, hs'⟩
    · simp only [srcA] at hs
      cases hg : H.get id with
      | none => simp [hg] at hs
      | some k =>
        cases k with
        | map => simp [hg] at hs
        | loop => simp [hg] at hs
        | cells cs ex =>
          simp only [hg] at hs
          cases hb : (Nat.beq sz size && Nat.beq ((cs.drop off).take (len * sz)).length (len * sz)) with
          | false => simp only [hb, cond_false] at hs; cases hs
          | true =>
            simp only [hb, cond_true, Option.some.injEq, Prod.mk.injEq] at hs
            obtain ⟨rfl, rfl⟩ := hs
            simp only [Bool.and_eq_true] at hb
            have e1 := Nat.eq_of_beq_eq_true hb.1
            have e2 := Nat.eq_of_beq_eq_true hb.2
            subst e1
            have hcell : cellsAt H (.ptr id off) (len * sz) = some ((cs.drop off).take (len * sz)) := by simp only [cellsAt, hg, hb.2, cond_true]
            obtain ⟨a, he, _, vs, q1, q2, q3⟩ := cellsAt_ok h (.ptr (off := off) hρ) hcell
            cases he
            exact ⟨vs, Src.ofSlice w hk _ len c vs q1 q2 (one q3), q3⟩
    · cases hs'
  | immE =>
    rename_i sz c a
    rcases hk with ⟨e', hk, _⟩ | ⟨_, s, hs'⟩
    · simp only [srcA] at hs
      cases hb : Nat.beq sz size with
      | false => simp only [hb, cond_false] at hs; cases hs
      | true =>
        simp only [hb, cond_true, Option.some.injEq, Prod.mk.injEq] at hs
        obtain ⟨rfl, rfl⟩ := hs
        cases a with
        | none => exact ⟨[], Src.ofNil w hk _, ⟨rfl, fun j x v hx => by simp at hx⟩⟩
        | some a => exact ⟨[], Src.ofSlice w hk a 0 c [] (by simp) (fun j u hu => by simp at hu) (fun u hu => by simp at hu), ⟨rfl, fun j x v hx => by simp at hx⟩⟩
    · cases hs'
  | imm val hn hl hsz hro hrel =>
    rename_i sz c b o n' xs
    rcases hk with ⟨e', hk, _⟩ | ⟨_, s, hs'⟩
    · simp only [srcA] at hs
      cases hb : Nat.beq sz size with
      | false => simp only [hb, cond_false] at hs; cases hs
      | true =>
        simp only [hb, cond_true, Option.some.injEq, Prod.mk.injEq] at hs
        obtain ⟨rfl, rfl⟩ := hs
        have e1 := Nat.eq_of_beq_eq_true hb
        subst e1 hn
        obtain ⟨f1, f2⟩ := flatten_get xs hsz
        obtain ⟨vs, q1, q2⟩ := exists_list (n := xs.length * sz) (p := fun k v => w.cell? ⟨b, o + k, none⟩ = some v ∧ ∀ x, xs.flatten[k]? = some x → Rel E x v) (fun k hk' => by
          obtain ⟨i, j, cs, e, hi, hj⟩ := f2 k xs.flatten[k] (List.getElem?_eq_getElem (by omega))
          refine ⟨val i j, by rw [e]; exact h.cell_ro (hro i cs j _ hi hj), fun x hx => ?_⟩
          rw [List.getElem?_eq_getElem (by omega)] at hx
          cases hx
          exact hrel i cs j _ hi hj)
        have hr : RelL E xs.flatten vs.toArray := ⟨by simp [q1, f1], fun k x v hx hv => (q2 k v (by simpa using hv)).2 x hx⟩
        exact ⟨vs, Src.ofSlice w hk _ _ c vs q1 (fun j u hu => by rw [addr_add]; exact (q2 j u hu).1) (one hr), hr⟩
    · cases hs'
  | _ => simp only [srcA] at hs; cases hs

/-- The block is forgotten, and known again under a new number from one of its cells on, with cells written. -/
theorem St.appendIn (h : St B w0 E H w) {id b o n off m : Nat} {cs l : List AV} {ex : Bool} {news : List Value} (hl : H.get id = some (.cells cs ex)) (he : E.ρ id = some (b, o, n))
    (hx : RelL E l news.toArray) (hm : off + m ≤ cs.length) (hin : off + m + l.length ≤ n) :
    ∃ E', E.Ext E' ∧ St B w0 E' ((H.set id none).new (.cells ((cs.drop off).take m ++ l) false)) (w.setCells b (o + off + m) news) ∧ E'.ρ H.n = some (b, o + off, n - off) := by
  obtain ⟨b', o', n', e, hB, hro, c, ty, lo, hi, h1, h2, h3, h4, h5, h6⟩ := h.live id _ hl
  rw [he] at e; cases e
  have hext : E.Ext (E.put H.n (b, o + off, n - off)) := Env.ext_put (h.dom _ (Nat.le_refl _))
  have hlen : news.length = l.length := by have := hx.len; simpa using this
  obtain ⟨r1, r2, r3, r4⟩ := setCells_rest b news (o + off + m) w
  have hoth : ∀ k, k ≠ b → (w.setCells b (o + off + m) news).heap[k]? = w.heap[k]? := fun k hk => heap_setCells_other hk news _ w
  have hid : id < H.n := by
    rcases Nat.lt_or_ge id H.n with q | q
    · exact q
    · rw [h.hdom id q] at hl; cases hl
  have hml : ((cs.drop off).take m).length = m := by simp; omega
  have hfb := h.frl id _ hl _ he
  refine ⟨_, hext, ⟨?_, ?_, ?_, ?_, ?_, ?_, ?_, h.rob, fun c x hx => ⟨?_, (h.fr c x hx).2⟩, ?_, h.sig⟩, by simp [Env.put]⟩
  · exact h.below.trans ⟨r2, r3, r4, by omega, fun k hk => hoth k (by omega)⟩
  · rw [r1]; exact h.size
  · intro k x hk
    rw [hoth k (by rintro rfl; simp only [Env.put] at hk; rw [hro] at hk; cases hk)]
    exact h.ro k x hk
  · intro j hj
    simp only [Hp.n_new, Hp.n_set] at hj
    simp only [Env.put]
    rw [if_neg (by omega)]
    exact h.dom j (by omega)
  · intro j hj
    simp only [Hp.n_new, Hp.n_set] at hj
    rw [Hp.get_new, Hp.n_set, if_neg (by omega), Hp.get_set, if_neg (by omega)]
    exact h.hdom j (by omega)
  · intro j k hk
    rw [Hp.get_new, Hp.n_set] at hk
    split at hk
    · rename_i ej
      subst ej
      cases hk
      refine ⟨b, o + off, n - off, by simp [Env.put], hB, hro, setMany c (o + off + m) news, ty, lo, hi, heap_setCells_same news _ c w h1, by rw [setMany_size]; omega, by simp; omega, (by intro hh; cases hh), by rw [setMany_size]; exact h5, ?_⟩
      intro j x hj
      rw [setMany_get news _ c _ (by omega)]
      by_cases hjm : j < m
      · rw [List.getElem?_append_left (by omega), List.getElem?_take, if_pos hjm, List.getElem?_drop] at hj
        rw [if_neg (by omega)]
        obtain ⟨v, hv, r⟩ := h6 _ _ hj
        exact ⟨v, by rw [Nat.add_assoc]; exact hv, r.ext hext⟩
      · rw [List.getElem?_append_right (by omega), hml] at hj
        have hjl := (List.getElem?_eq_some_iff.1 hj).1
        rw [if_pos (by omega), show o + off + j - (o + off + m) = j - m by omega]
        have hlt : j - m < news.length := by omega
        exact ⟨news[j - m], by simp [hlt], (hx.at_ _ _ _ hj (by simp [hlt])).ext hext⟩
    · rename_i ej
      rw [Hp.get_set] at hk
      split at hk
      · cases hk
      · rename_i ej2
        obtain ⟨b2, o2, n2, e2, hB2, hro2, ok2⟩ := h.live j k hk
        have := h.disj j id _ _ hk hl ej2 _ _ e2 he
        exact ⟨b2, o2, n2, hext.ρ _ _ e2, hB2, hro2, (ok2.heap (hoth b2 this)).ext hext⟩
  · intro i j k k' hi hj hne p q hp hq
    rw [Hp.get_new, Hp.n_set] at hi hj
    simp only [Env.put] at hp hq
    split at hi
    · rename_i ei
      rw [if_pos ei] at hp
      rw [if_neg (by omega)] at hj hq
      rw [Hp.get_set] at hj
      split at hj
      · cases hj
      · rename_i ej2
        cases hp
        exact fun e => h.disj j id _ _ hj hl ej2 _ _ hq he e.symm
    · rename_i ei
      rw [if_neg ei] at hp
      rw [Hp.get_set] at hi
      split at hi
      · cases hi
      · rename_i ei2
        split at hj
        · rename_i ej
          rw [if_pos ej] at hq
          cases hq
          exact fun e => h.disj i id _ _ hi hl ei2 _ _ hp he e
        · rename_i ej
          rw [if_neg ej] at hq
          rw [Hp.get_set] at hj
          split at hj
          · cases hj
          · exact h.disj i j k k' hi hj hne p q hp hq
  · rw [hoth c (by rintro rfl; rw [hfb] at hx; cases hx)]; exact (h.fr c x hx).1
  · intro i k hi p hp
    rw [Hp.get_new, Hp.n_set] at hi
    simp only [Env.put] at hp
    split at hi
    · rename_i ei
      rw [if_pos ei] at hp
      cases hp
      exact hfb
    · rename_i ei
      rw [if_neg ei] at hp
      rw [Hp.get_set] at hi
      split at hi
      · cases hi
      · exact h.frl i k hi p hp

def isStr : AV → Bool
  | .lit (.string _) => true
  | _ => false

def notStr : AV → Bool
  | .lit (.string _) => false
  | .any => false
  | .ss _ => false
  | _ => true

def kindOk : TD → AV → Bool
  | .slice _, y => notStr y
  | .string, y => isStr y
  | _, _ => false

def appendA (ti : Nat → Option TI) (H : Hp) (ts tx : Nat) (x y : AV) : Option (AV × Hp) :=
  match ti ts, ti tx with
  | some ⟨.slice e, _, _, _⟩, some j =>
    bif kindOk j.d y then
    match ti e with
    | some i => match srcA H i.size y with
      | some (n, l) =>
        bif Nat.beq i.zero.length i.size && l.all AV.one then
        bif Nat.beq n 0 then
          match x with
          | .lit (.slice none 0 0) => some (x, H)
          | .emp => some (x, H)
          | .sl _ _ _ _ _ => some (x, H)
          | .se _ _ _ => some (x, H)
          | .imm _ _ => some (x, H)
          | _ => none
        else
          match x with
          | .lit (.slice none 0 0) => bif Nat.ble (n * i.bytes) 140737488355328 && Nat.ble n 4611686018427387904 then some (.sl H.n 0 i.size n none, H.new (.cells l false)) else none
          | .emp => bif Nat.ble (n * i.bytes) 140737488355328 && Nat.ble n 4611686018427387904 then some (.sl H.n 0 i.size n none, H.new (.cells l false)) else none
          | .sl id off sz len cap =>
            match H.get id with
            | some (.cells cs ex) =>
              bif Nat.beq sz i.size && (Nat.ble (off + len * sz) cs.length && (Nat.ble ((len + n) * i.bytes) 140737488355328 && Nat.ble (len + n) 4611686018427387904)) then
                match cap with
                | some c =>
                  bif Nat.ble (len + n) c then
                    bif Nat.ble (off + len * sz + l.length) cs.length then some (.sl id off sz (len + n) (some c), H.set id (some (.cells (overlay cs (off + len * sz) l) ex))) else none
                  else some (.sl H.n 0 sz (len + n) none, H.new (.cells ((cs.drop off).take (len * sz) ++ l) false))
                | none => some (.sl H.n 0 sz (len + n) none, (H.set id none).new (.cells ((cs.drop off).take (len * sz) ++ l) false))
              else none
            | _ => none
          | .se id off sz =>
            match H.get id with
            | some (.cells cs _) =>
              bif Nat.beq sz i.size && (Nat.ble off cs.length && (Nat.ble (n * i.bytes) 140737488355328 && Nat.ble n 4611686018427387904)) then some (.sl H.n 0 sz n none, (H.set id none).new (.cells l false))
              else none
            | _ => none
          | _ => none
        else none
      | none => none
    | none => none
    else none
  | _, _ => none

theorem grow_row (h : St B w0 E H w) {olds news : List Value} {xs l : List AV} {z : Value} {size need grown e : Nat} (ho : RelL E xs olds.toArray) (hn : RelL E l news.toArray) (hzs : z.cells.size = size)
    (hlen : xs.length + l.length = need * size) (hg : need ≤ grown) (H1 : Hp) (hH : H1 = H ∨ ∃ id, H1 = H.set id none) :
    ∃ E', E.Ext E' ∧ St B w0 E' (H1.new (.cells (xs ++ l) false)) (w.drew.alloc (.cells ((olds ++ news).toArray ++ Builtin.zeroCells z.cells (grown - need)) e)) ∧ E'.ρ H.n = some (w.heap.size, 0, grown * size) := by
  have e1 : olds.length = xs.length := by have := ho.len; simpa using this
  have e2 : news.length = l.length := by have := hn.len; simpa using this
  have hsz : ((olds ++ news).toArray ++ Builtin.zeroCells z.cells (grown - need)).size = grown * size := by
    simp only [Array.size_append, List.size_toArray, List.length_append, Builtin.zeroCells, Array.size_map, Array.size_range, hzs]
    have : grown * size = need * size + (grown - need) * size := by rw [← Nat.add_mul]; congr 1; omega
    omega
  have hst : St B w0 E H1 w.drew := by
    have h0 : St B w0 E H w.drew := h.drew _
    rcases hH with rfl | ⟨id, rfl⟩
    · exact h0
    · exact h0.kill id
  have hn1 : H1.n = H.n := by rcases hH with rfl | ⟨id, rfl⟩ <;> rfl
  have hle : need * size ≤ grown * size := Nat.mul_le_mul_right _ hg
  obtain ⟨E', h1, h2, h3⟩ := hst.row (xs := xs ++ l) (c := (olds ++ news).toArray ++ Builtin.zeroCells z.cells (grown - need)) (ex := false) e 0 0 (.inl (Nat.le_refl _))
    (by rw [hsz, List.length_append]; omega) (by intro hh; cases hh) (fun j x hj => by
      have hjl := (List.getElem?_eq_some_iff.1 hj).1
      rw [List.length_append] at hjl
      have hlt : j < (olds ++ news).toArray.size := by simp; omega
      by_cases hjx : j < xs.length
      · rw [List.getElem?_append_left hjx] at hj
        refine ⟨olds[j], ?_, ho.at_ j x _ hj (by simp)⟩
        rw [Array.getElem?_append_left hlt]
        simp only [List.getElem?_toArray]
        rw [List.getElem?_append_left (by omega)]
        simp
      · rw [List.getElem?_append_right (by omega)] at hj
        refine ⟨news[j - xs.length], ?_, hn.at_ _ x _ hj (by simp)⟩
        rw [Array.getElem?_append_left hlt]
        simp only [List.getElem?_toArray]
        rw [List.getElem?_append_right (by omega), e1]
        simp)
  refine ⟨E', h1, h2, ?_⟩
  rw [← hn1, h3, hsz]
  rfl

include hti in
theorem appendA_ok (h : St B w0 E H w) {ts tx ty : Nat} {x y : AV} {vx vy : Value} (hx : Rel E x vx) (hy : Rel E y vy) {r : AV} {H' : Hp} (ha : appendA ti H ts tx x y = some (r, H')) :
    StepV P B w0 E (Builtin.append_ #[ts, tx] ty #[vx, vy]) w r H' := by
  unfold appendA at ha
  split at ha
  case h_2 => cases ha
  rename_i e a b z j htt htx
  obtain ⟨ht⟩ := tiOf_ok (hti _ _ htt)
  obtain ⟨htx⟩ := tiOf_ok (hti _ _ htx)
  have hd := ht.slice
  have hu : P.underlying ts = some (.slice e) := hd ▸ ht.hu
  cases hkind : kindOk j.d y with
  | false => simp only [hkind, cond_false] at ha; cases ha
  | true =>
  simp only [hkind, cond_true] at ha
  have hk : (∃ e', P.underlying tx = some (.slice e') ∧ ∀ s, vy ≠ .string s) ∨ (P.underlying tx = some .string ∧ ∃ s, vy = .string s) := by
    have hej := htx.he
    have hux := htx.hu
    cases hdx : htx.d <;> rw [hdx] at hej hux <;> rw [hej] at hkind <;> simp only [TD.of, kindOk] at hkind <;> try (cases hkind; done)
    case string =>
      right
      refine ⟨hux, ?_⟩
      cases hy with
      | lit => cases vy <;> simp only [isStr] at hkind <;> first | exact ⟨_, rfl⟩ | cases hkind
      | _ => simp only [isStr] at hkind; cases hkind
    case slice e' =>
      left
      refine ⟨e', hux, fun s hs => ?_⟩
      subst hs
      cases hy <;> simp only [notStr] at hkind <;> cases hkind
  split at ha
  case h_2 => cases ha
  rename_i i hi
  obtain ⟨ht2⟩ := tiOf_ok (hti _ _ hi)
  have hsize := ht2.size_eq
  have hbytes := ht2.bytes_eq
  split at ha
  case h_2 => cases ha
  rename_i n l hsrc
  cases hbz : (Nat.beq i.zero.length i.size && l.all AV.one) with
  | false => simp only [hbz, cond_false] at ha; cases ha
  | true =>
  simp only [hbz, cond_true] at ha
  simp only [Bool.and_eq_true] at hbz
  have hzl := Nat.eq_of_beq_eq_true hbz.1
  have hzs : ht2.z.cells.size = i.size := by rw [← hzl, ← ht2.zero_eq]; simp
  obtain ⟨news, hS, hR⟩ := srcA_ok (P := P) (tx := tx) h hy hsrc hbz.2 hk
  have hS' : Src P ht2.info.size tx vy n news w := hsize ▸ hS
  have hnl : news.length = n * i.size := hS.newsLen
  have hll : l.length = n * i.size := by have := hR.len; simp at this; omega
  cases hn0 : Nat.beq n 0 with
  | true =>
    simp only [hn0, cond_true] at ha
    have hn0 := Nat.eq_of_beq_eq_true hn0
    subst hn0
    have hnil : news = [] := List.eq_nil_of_length_eq_zero (by omega)
    subst hnil
    have go : ∀ {a : Option Addr} {len c : Nat}, vx = .slice a len c → len ≤ c → some (x, H) = some (r, H') → StepV P B w0 E (Builtin.append_ #[ts, tx] ty #[vx, vy]) w r H' := by
      intro a len c hv hle heq
      cases heq
      subst hv
      exact .same h (run_append_nothing w ts tx ty e ht2.info hu ht2.hi a len c hle vy hS') hx
    split at ha
    · cases hx; exact go rfl (Nat.le_refl _) ha
    · cases hx; exact go rfl (Nat.le_refl _) ha
    · have hx2 := hx
      cases hx2 with | sl hρ hc hl hn => exact go rfl hl ha
    · have hx2 := hx
      cases hx2 with
      | seE => exact go rfl (Nat.le_refl _) ha
      | seS hρ hn => exact go rfl (Nat.zero_le _) ha
    · have hx2 := hx
      cases hx2 with
      | immE => exact go rfl (Nat.zero_le _) ha
      | imm val hn hl => exact go rfl hl ha
    · cases ha
  | false =>
    simp only [hn0, cond_false] at ha
    have hnpos : 0 < n := Nat.pos_of_ne_zero fun e => by rw [e] at hn0; simp at hn0
    have freshAt : ∀ {a : Option Addr} (H1 : Hp), (H1 = H ∨ ∃ id, H1 = H.set id none) → vx = .slice a 0 0 → (bif Nat.ble (n * i.bytes) 140737488355328 && Nat.ble n 4611686018427387904 then some (AV.sl H.n 0 i.size n none, H1.new (.cells l false)) else none) = some (r, H') →
        StepV P B w0 E (Builtin.append_ #[ts, tx] ty #[vx, vy]) w r H' := by
      intro a H1 hH1 hv heq
      cases hb : (Nat.ble (n * i.bytes) 140737488355328 && Nat.ble n 4611686018427387904) with
      | false => simp only [hb, cond_false] at heq; cases heq
      | true =>
        simp only [hb, cond_true, Option.some.injEq, Prod.mk.injEq] at heq
        obtain ⟨rfl, rfl⟩ := heq
        simp only [Bool.and_eq_true] at hb
        have b1 := Nat.le_of_ble_eq_true hb.1
        have b2 := Nat.le_of_ble_eq_true hb.2
        subst hv
        have hold : (Builtin.firstCells ht2.info.size 0 (.slice a 0 0)).run P w.drew = .ok ([] : List Value).toArray w.drew := by
          cases a with
          | none => exact run_firstCells_none _ _ _ _ _
          | some a => exact run_firstCells_some _ _ _ _ _ _ [] (by simp) (fun j v hv => by simp at hv)
        have hgrow := run_append_grow_src (P := P) w ts tx ty e ht2.info ht2.z hu ht2.hi ht2.hz a 0 0 [] hold vy n news hS' (by omega) (by omega) (by
          have := nextslicecap_le (need := 0 + n) (old := 0) (by omega)
          rw [hbytes]
          have := Nat.mul_le_mul_right i.bytes this
          have : 2 * (0 + n) * i.bytes = 2 * (n * i.bytes) := by rw [Nat.zero_add, Nat.mul_assoc]
          omega)
        obtain ⟨E', g1, g2, g3⟩ := grow_row h (olds := []) (xs := []) (size := i.size) (need := 0 + n) (grown := grownCap w (0 + n) 0 e) (e := e) ⟨rfl, fun j x v hx => by simp at hx⟩ hR hzs (by simp [hll]) (grownCap_ge _ _ _ _) H1 hH1
        refine ⟨E', _, _, hgrow, g1, by simpa using g2, ?_⟩
        have := Rel.sl (E := E') (off := 0) (sz := i.size) (len := n) (c := grownCap w (0 + n) 0 e) (cap := none) g3 (fun k hk => by cases hk) (by have := grownCap_ge w (0 + n) 0 e; omega) (by omega)
        simpa using this
    have fresh : ∀ {a : Option Addr}, vx = .slice a 0 0 → (bif Nat.ble (n * i.bytes) 140737488355328 && Nat.ble n 4611686018427387904 then some (AV.sl H.n 0 i.size n none, H.new (.cells l false)) else none) = some (r, H') →
        StepV P B w0 E (Builtin.append_ #[ts, tx] ty #[vx, vy]) w r H' := fun hv heq => freshAt H (.inl rfl) hv heq
    split at ha
    · cases hx; exact fresh rfl ha
    · cases hx; exact fresh rfl ha
    · rename_i id off sz len cap
      split at ha
      case h_2 => cases ha
      rename_i cs ex hg
      cases hb : (Nat.beq sz i.size && (Nat.ble (off + len * sz) cs.length && (Nat.ble ((len + n) * i.bytes) 140737488355328 && Nat.ble (len + n) 4611686018427387904))) with
      | false => simp only [hb, cond_false] at ha; cases ha
      | true =>
        simp only [hb, cond_true] at ha
        simp only [Bool.and_eq_true] at hb
        have b1 := Nat.eq_of_beq_eq_true hb.1
        have b2 := Nat.le_of_ble_eq_true hb.2.1
        have b3 := Nat.le_of_ble_eq_true hb.2.2.1
        have b4 := Nat.le_of_ble_eq_true hb.2.2.2
        subst b1
        cases hx with
        | sl hρ hc hl hn =>
        rename_i bb o n' c
        have hcell : cellsAt H (.ptr id off) (len * i.size) = some ((cs.drop off).take (len * i.size)) := by
          simp only [cellsAt, hg]
          have : Nat.beq ((cs.drop off).take (len * i.size)).length (len * i.size) = true := by
            have : ((cs.drop off).take (len * i.size)).length = len * i.size := by simp; omega
            rw [this]; simp
          rw [this, cond_true]
        obtain ⟨a', he', hol, olds, q1, q2, q3⟩ := cellsAt_ok h (.ptr (off := off) hρ) hcell
        cases he'
        have grow : ∀ (H1 : Hp), (H1 = H ∨ ∃ id, H1 = H.set id none) → c < len + n →
            StepV P B w0 E (Builtin.append_ #[ts, tx] ty #[.slice (some ⟨bb, o + off, none⟩) len c, vy]) w (.sl H.n 0 i.size (len + n) none) (H1.new (.cells ((cs.drop off).take (len * i.size) ++ l) false)) := by
          intro H1 hH hlt
          have hold : (Builtin.firstCells ht2.info.size len (.slice (some ⟨bb, o + off, none⟩) len c)).run P w.drew = .ok olds.toArray w.drew :=
            run_firstCells_some w.drew _ _ _ _ _ olds (by rw [hsize]; exact q1) (fun j u hu => by simpa using q2 j u hu)
          have hgrow := run_append_grow_src (P := P) w ts tx ty e ht2.info ht2.z hu ht2.hi ht2.hz (some ⟨bb, o + off, none⟩) len c olds hold vy n news hS' hlt (by omega) (by
            have := nextslicecap_le (need := len + n) (old := c) hlt
            rw [hbytes]
            have := Nat.mul_le_mul_right i.bytes this
            rw [Nat.mul_assoc] at this
            omega)
          obtain ⟨E', g1, g2, g3⟩ := grow_row h (size := i.size) (need := len + n) (grown := grownCap w (len + n) c e) (e := e) q3 hR hzs (by rw [hol, hll, ← Nat.add_mul]) (grownCap_ge _ _ _ _) H1 hH
          refine ⟨E', _, _, hgrow, g1, g2, ?_⟩
          have := Rel.sl (E := E') (off := 0) (sz := i.size) (len := len + n) (c := grownCap w (len + n) c e) (cap := none) g3 (fun k hk => by cases hk) (by have := grownCap_ge w (len + n) c e; omega) (by omega)
          simpa using this
        have hlm : len * i.size + n * i.size ≤ n' - off ∨ c < len + n := by
          rcases Nat.lt_or_ge c (len + n) with q | q
          · exact .inr q
          · left
            have := Nat.mul_le_mul_right i.size q
            rw [Nat.add_mul] at this
            omega
        have room : len + n ≤ c → (Builtin.append_ #[ts, tx] ty #[.slice (some ⟨bb, o + off, none⟩) len c, vy]).run P w = .ok (.slice (some ⟨bb, o + off, none⟩) (len + n) c) (w.setCells bb (o + off + len * i.size) news) := by
          intro hroom
          have hh : len * i.size + n * i.size ≤ n' - off := by rcases hlm with q | q <;> omega
          have := run_append_room_src (P := P) w ts tx ty e ht2.info hu ht2.hi bb (o + off) len c vy n news hS' hroom
            (fun j hj => by rw [hsize]; have := (h.frozen_live hg hρ (j := off + len * i.size + j) (by omega)).2; rwa [show o + (off + len * i.size + j) = o + off + len * i.size + j by omega] at this)
            (fun j hj => by rw [hsize]; have := (h.frozen_live hg hρ (j := off + len * i.size + j) (by omega)).1; rwa [show o + (off + len * i.size + j) = o + off + len * i.size + j by omega] at this)
          rwa [hsize] at this
        split at ha
        · rename_i c2
          have hcc := hc c2 rfl
          subst hcc
          cases hr : Nat.ble (len + n) c with
          | true =>
            simp only [hr, cond_true] at ha
            have hr := Nat.le_of_ble_eq_true hr
            cases hr2 : Nat.ble (off + len * i.size + l.length) cs.length with
            | false => simp only [hr2, cond_false] at ha; cases ha
            | true =>
              simp only [hr2, cond_true, Option.some.injEq, Prod.mk.injEq] at ha
              obtain ⟨rfl, rfl⟩ := ha
              have hr2 := Nat.le_of_ble_eq_true hr2
              refine ⟨E, _, _, room hr, .refl E, ?_, .sl hρ (fun k hk => by cases hk; rfl) hr hn⟩
              have := h.storeCells hg hρ hR hr2
              rwa [← Nat.add_assoc] at this
          | false =>
            simp only [hr, cond_false, Option.some.injEq, Prod.mk.injEq] at ha
            obtain ⟨rfl, rfl⟩ := ha
            have hr : ¬ len + n ≤ c := fun q => by rw [Nat.ble_eq_true_of_le q] at hr; cases hr
            exact grow H (.inl rfl) (by omega)
        · simp only [Option.some.injEq, Prod.mk.injEq] at ha
          obtain ⟨rfl, rfl⟩ := ha
          rcases Nat.lt_or_ge c (len + n) with hr | hr
          · exact grow _ (.inr ⟨id, rfl⟩) hr
          · have hh : len * i.size + n * i.size ≤ n' - off := by rcases hlm with q | q <;> omega
            obtain ⟨E', g1, g2, g3⟩ := h.appendIn hg hρ hR b2 (by omega)
            refine ⟨E', _, _, room hr, g1, g2, ?_⟩
            have hcn : c * i.size ≤ n' - off := by omega
            have := Rel.sl (E := E') (off := 0) (sz := i.size) (len := len + n) (c := c) (cap := none) g3 (fun k hk => by cases hk) hr (by omega)
            simpa using this
    · rename_i id off sz
      split at ha
      case h_2 => cases ha
      rename_i cs ex hg
      cases hb : (Nat.beq sz i.size && (Nat.ble off cs.length && (Nat.ble (n * i.bytes) 140737488355328 && Nat.ble n 4611686018427387904))) with
      | false => simp only [hb, cond_false] at ha; cases ha
      | true =>
        simp only [hb, cond_true] at ha
        have hb' := hb
        simp only [Bool.and_eq_true] at hb
        have b1 := Nat.eq_of_beq_eq_true hb.1
        have b2 := Nat.le_of_ble_eq_true hb.2.1
        have b3 := Nat.le_of_ble_eq_true hb.2.2.1
        have b4 := Nat.le_of_ble_eq_true hb.2.2.2
        subst b1
        simp only [Option.some.injEq, Prod.mk.injEq] at ha
        obtain ⟨rfl, rfl⟩ := ha
        cases hx with
        | seE =>
          refine freshAt (H.set id none) (.inr ⟨id, rfl⟩) rfl ?_
          rw [hb.2.2.1, hb.2.2.2]; rfl
        | seS hρ hn =>
          rename_i bb o n' c
          have hlm : n * i.size ≤ n' - off ∨ c < n := by
            rcases Nat.lt_or_ge c n with q | q
            · exact .inr q
            · left
              have := Nat.mul_le_mul_right i.size q
              omega
          rcases Nat.lt_or_ge c n with hr | hr
          · have hold : (Builtin.firstCells ht2.info.size 0 (.slice (some ⟨bb, o + off, none⟩) 0 c)).run P w.drew = .ok ([] : List Value).toArray w.drew :=
              run_firstCells_some w.drew _ _ _ _ _ [] (by simp) (fun j u hu => by simp at hu)
            have hgrow := run_append_grow_src (P := P) w ts tx ty e ht2.info ht2.z hu ht2.hi ht2.hz (some ⟨bb, o + off, none⟩) 0 c [] hold vy n news hS' (by omega) (by omega) (by
              have := nextslicecap_le (need := 0 + n) (old := c) (by omega)
              rw [hbytes]
              have := Nat.mul_le_mul_right i.bytes this
              have : 2 * (0 + n) * i.bytes = 2 * (n * i.bytes) := by rw [Nat.zero_add, Nat.mul_assoc]
              omega)
            obtain ⟨E', g1, g2, g3⟩ := grow_row h (olds := []) (xs := []) (size := i.size) (need := 0 + n) (grown := grownCap w (0 + n) c e) (e := e) ⟨rfl, fun j x v hx => by simp at hx⟩ hR hzs (by simp [hll]) (grownCap_ge _ _ _ _) (H.set id none) (.inr ⟨id, rfl⟩)
            refine ⟨E', _, _, hgrow, g1, by simpa using g2, ?_⟩
            have := Rel.sl (E := E') (off := 0) (sz := i.size) (len := n) (c := grownCap w (0 + n) c e) (cap := none) g3 (fun k hk => by cases hk) (by have := grownCap_ge w (0 + n) c e; omega) (by omega)
            simpa using this
          · have hh : n * i.size ≤ n' - off := by rcases hlm with q | q <;> omega
            have room := run_append_room_src (P := P) w ts tx ty e ht2.info hu ht2.hi bb (o + off) 0 c vy n news hS' (by omega)
              (fun j hj => by rw [hsize]; have := (h.frozen_live hg hρ (j := off + j) (by omega)).2; rwa [show o + (off + j) = o + off + 0 * i.size + j by omega] at this)
              (fun j hj => by rw [hsize]; have := (h.frozen_live hg hρ (j := off + j) (by omega)).1; rwa [show o + (off + j) = o + off + 0 * i.size + j by omega] at this)
            rw [hsize] at room
            obtain ⟨E', g1, g2, g3⟩ := h.appendIn (off := off) (m := 0 * i.size) hg hρ hR (by omega) (by omega)
            refine ⟨E', _, _, room, g1, by simpa using g2, ?_⟩
            have hcn : c * i.size ≤ n' - off := by omega
            have := Rel.sl (E := E') (off := 0) (sz := i.size) (len := n) (c := c) (cap := none) g3 (fun k hk => by cases hk) hr (by omega)
            simpa using this
    · cases ha
end
end Go.Proofs.Ytikcninaepoojaa.Ev
