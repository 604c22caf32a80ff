/- Arguments of package api's types, read as plain data. -/
import Derived.Test.YtikcninaepoojaaDcNm
import Derived.Test.YtikcninaepoojaaData
import Derived.Test.YtikcninaepoojaaRd
namespace Go.Proofs.Ytikcninaepoojaa.Ev
set_option linter.unusedVariables false
set_option linter.unusedSimpArgs false

theorem rows_map {α : Type} {f : α → List AV} {P : α → Prop} : ∀ {rows : List (List AV)}, (∀ row ∈ rows, ∃ x, row = f x ∧ P x) → ∃ l : List α, rows = l.map f ∧ ∀ x ∈ l, P x
  | [], _ => ⟨[], rfl, fun x hx => by cases hx⟩
  | r :: rs, h => by
    obtain ⟨x, hx, px⟩ := h r (by simp)
    obtain ⟨l, hl, pl⟩ := rows_map (rows := rs) fun row hr => h row (by simp [hr])
    refine ⟨x :: l, by rw [hx, hl]; rfl, fun y hy => ?_⟩
    rcases List.mem_cons.1 hy with rfl | hy
    · exact px
    · exact pl y hy

theorem d_int {ts : List Nat} {zs : List AV} (h : Sh tiT.get (T_int :: ts) zs) : ∃ n ys, zs = I n :: ys ∧ i64 n ∧ Sh tiT.get ts ys := by
  obtain ⟨i, hi, hd, _⟩ := T_int_is
  obtain ⟨n, ys, e, hw, hs⟩ := sh_int hi hd h
  refine ⟨n, ys, e, ?_, hs⟩
  simp [Lit.wf, IntKind.min, IntKind.max, IntKind.signed, IntKind.bits] at hw
  unfold i64
  omega
theorem d_str {ts : List Nat} {zs : List AV} (h : Sh tiT.get (T_string :: ts) zs) : ∃ s ys, zs = Sx s :: ys ∧ s.data.size ≤ Lmax ∧ Sh tiT.get ts ys := by
  obtain ⟨i, hi, hd, _⟩ := T_string_is
  obtain ⟨s, ys, e, hw, hs⟩ := sh_str hi hd h
  exact ⟨s, ys, e, hw, hs⟩
theorem d_bool {ts : List Nat} {zs : List AV} (h : Sh tiT.get (T_bool :: ts) zs) : ∃ b ys, zs = Bo b :: ys ∧ Sh tiT.get ts ys := by
  obtain ⟨i, hi, hd, _⟩ := T_bool_is
  exact sh_bool hi hd h
theorem d_slice {t e sz : Nat} (hT : ∃ i, tiT.get t = some i ∧ i.d = .slice e ∧ i.size = 1) (hE : ∃ i, tiT.get e = some i ∧ i.size = sz) {ts : List Nat} {zs : List AV} (h : Sh tiT.get (t :: ts) zs) :
    ∃ rows ys, zs = .imm sz rows :: ys ∧ (∀ row ∈ rows, Sh tiT.get [e] row) ∧ rows.length ≤ Lmax ∧ Sh tiT.get ts ys := by
  obtain ⟨i, hi, hd, _⟩ := hT
  obtain ⟨j', hj', hs'⟩ := hE
  rcases sh_slice hi hd h with ⟨ys, _, _⟩ | ⟨j, rows, ys, hj, e, hr, hl, hm, hs⟩
  · cases h with
    | sl h' hd' he hc hl hm hs => rw [hi] at h'; cases h'; rw [hd] at hd'; cases hd'; rw [hj'] at he; cases he; exact ⟨_, _, by rw [hs'], hc, hm, hs⟩
    | _ => simp_all
  · rw [hj'] at hj
    cases hj
    rw [hs'] at e
    exact ⟨rows, ys, e, hr, hm, hs⟩
theorem d_struct {t : Nat} {fs : List (Nat × Nat)} {sz : Nat} (hT : ∃ i, tiT.get t = some i ∧ i.d = .struct fs ∧ i.size = sz) {ts : List Nat} {zs : List AV} (h : Sh tiT.get (t :: ts) zs) : Sh tiT.get (fs.map (·.2) ++ ts) zs := by
  obtain ⟨i, hi, hd, _⟩ := hT
  exact sh_struct hi hd h
theorem sz_of {t sz : Nat} {d : TD} (h : ∃ i, tiT.get t = some i ∧ i.d = d ∧ i.size = sz) : ∃ i, tiT.get t = some i ∧ i.size = sz := by
  obtain ⟨i, a, _, b⟩ := h
  exact ⟨i, a, b⟩

theorem d_strs {ts : List Nat} {zs : List AV} (h : Sh tiT.get (T_sl_string :: ts) zs) : ∃ l ys, zs = strs l :: ys ∧ strsWf Lmax l ∧ Sh tiT.get ts ys := by
  obtain ⟨rows, ys, e, hr, hm, hs⟩ := d_slice T_sl_string_is (sz_of T_string_is) h
  obtain ⟨l, hl, hp⟩ := rows_map (f := fun s => [Sx s]) (P := fun s => s.data.size ≤ Lmax) fun row hrow => by
    obtain ⟨s, ys, e, hw, hs⟩ := d_str (hr row hrow)
    rw [sh_nil hs] at e
    exact ⟨s, e, hw⟩
  exact ⟨l, ys, by rw [e, hl]; rfl, ⟨by rw [hl] at hm; simpa using hm, hp⟩, hs⟩

theorem d_attrs {ts : List Nat} {zs : List AV} (h : Sh tiT.get (T_sl_api_Attr :: ts) zs) : ∃ (l : List At) (ys : List AV), zs = .imm 3 (l.map encAt) :: ys ∧ (l.length ≤ Lmax ∧ ∀ x ∈ l, x.name.data.size ≤ Lmax ∧ i64 x.op ∧ x.text.data.size ≤ Lmax) ∧ Sh tiT.get ts ys := by
  obtain ⟨rows, ys, e, hr, hm, hs⟩ := d_slice T_sl_api_Attr_is (sz_of T_api_Attr_is) h
  obtain ⟨l, hl, hp⟩ := rows_map (f := encAt) (P := fun x => x.name.data.size ≤ Lmax ∧ i64 x.op ∧ x.text.data.size ≤ Lmax) fun row hrow => by
    have h1 := d_struct T_api_Attr_is (hr row hrow)
    obtain ⟨a, y1, e1, w1, h2⟩ := d_str h1
    obtain ⟨b, y2, e2, w2, h3⟩ := d_int h2
    obtain ⟨c, y3, e3, w3, h4⟩ := d_str h3
    rw [sh_nil h4] at e3
    exact ⟨⟨a, b, c⟩, by rw [e1, e2, e3]; rfl, w1, w2, w3⟩
  exact ⟨l, ys, by rw [e, hl], ⟨by rw [hl] at hm; simpa using hm, hp⟩, hs⟩

/-- Parts; by the size of what is read. -/
theorem d_parts : ∀ (n : Nat) {ts : List Nat} {zs : List AV}, SizeOf.sizeOf zs ≤ n → Sh tiT.get (T_sl_api_Part :: ts) zs → ∃ (l : List Pt) (ys : List AV), zs = .imm 6 (l.map encPt) :: ys ∧ (l.length ≤ Lmax ∧ ∀ p ∈ l, Pt.wf Lmax p) ∧ Sh tiT.get ts ys
  | 0, ts, zs, hn, h => by cases zs <;> simp at hn
  | n + 1, ts, zs, hn, h => by
    obtain ⟨rows, ys, e, hr, hm, hs⟩ := d_slice T_sl_api_Part_is (sz_of T_api_Part_is) h
    obtain ⟨l, hl, hp⟩ := rows_map (f := encPt) (P := fun p => Pt.wf Lmax p) fun row hrow => by
      have hsz : SizeOf.sizeOf row < n := by
        have h1 : SizeOf.sizeOf row < SizeOf.sizeOf rows := List.sizeOf_lt_of_mem hrow
        rw [e] at hn
        simp only [List.cons.sizeOf_spec, AV.imm.sizeOf_spec] at hn
        omega
      obtain ⟨k, y1, e1, w1, h1⟩ := d_int (d_struct T_api_Part_is (hr row hrow))
      have h1 := d_struct T_api_Compound_is h1
      obtain ⟨t, y2, e2, w2, h2⟩ := d_str h1
      obtain ⟨i, y3, e3, w3, h3⟩ := d_strs h2
      obtain ⟨c, y4, e4, w4, h4⟩ := d_strs h3
      obtain ⟨a, y5, e5, w5, h5⟩ := d_attrs h4
      obtain ⟨prows, y6, e6, hpr, hpm, h6⟩ := d_slice T_sl_api_Pseudo_is (sz_of T_api_Pseudo_is) h5
      rw [sh_nil h6] at e6
      subst e6 e5 e4 e3 e2 e1
      obtain ⟨ps, hps, hpp⟩ := rows_map (f := encPs) (P := fun p => Ps.wf Lmax p) fun prow hprow => by
        have hsz2 : SizeOf.sizeOf prow < n := by
          have h1 : SizeOf.sizeOf prow < SizeOf.sizeOf prows := List.sizeOf_lt_of_mem hprow
          simp only [List.cons.sizeOf_spec, AV.imm.sizeOf_spec] at hsz
          omega
        have g1 := d_struct T_api_Pseudo_is (hpr prow hprow)
        obtain ⟨k, y1, e1, w1, g2⟩ := d_int g1
        obtain ⟨a, y2, e2, w2, g3⟩ := d_int g2
        obtain ⟨b, y3, e3, w3, g4⟩ := d_int g3
        obtain ⟨srows, y4, e4, hsr, hsm, g5⟩ := d_slice T_sl_api_Selector_is (sz_of T_api_Selector_is) g4
        rw [sh_nil g5] at e4
        subst e4 e3 e2 e1
        obtain ⟨ss, hss, hsp⟩ := rows_map (f := encSl) (P := slWf Lmax) fun srow hsrow => by
          have hsz3 : SizeOf.sizeOf srow < n := by
            have h1 : SizeOf.sizeOf srow < SizeOf.sizeOf srows := List.sizeOf_lt_of_mem hsrow
            simp only [List.cons.sizeOf_spec, AV.imm.sizeOf_spec] at hsz2
            omega
          obtain ⟨l, y1, e1, w1, q1⟩ := d_parts n (by omega) (d_struct T_api_Selector_is (hsr srow hsrow))
          rw [sh_nil q1] at e1
          exact ⟨l, e1, w1.1, w1.2⟩
        refine ⟨.mk k a b ss, by rw [encPs_eq, hss]; rfl, ?_⟩
        rw [Ps.wf_iff]
        exact ⟨w1, w2, w3, by rw [hss, List.length_map] at hsm; exact hsm, hsp⟩
      refine ⟨.mk k (.mk t i c a ps), by rw [encPt_eq, encCp_eq, hps]; rfl, ?_⟩
      rw [Pt.wf_iff]
      exact ⟨w1, w2, w3, w4, w5.1, w5.2, by rw [hps, List.length_map] at hpm; exact hpm, hpp⟩
    exact ⟨l, ys, by rw [e, hl], ⟨by rw [hl] at hm; simpa using hm, hp⟩, hs⟩

theorem d_sel {ts : List Nat} {zs : List AV} (h : Sh tiT.get (T_api_Selector :: ts) zs) : ∃ (s : Sl) (ys : List AV), zs = encSl s ++ ys ∧ slWf Lmax s ∧ Sh tiT.get ts ys := by
  obtain ⟨l, ys, e, w, hs⟩ := d_parts _ (Nat.le_refl _) (d_struct T_api_Selector_is h)
  exact ⟨l, ys, e, w, hs⟩
theorem d_sels {ts : List Nat} {zs : List AV} (h : Sh tiT.get (T_sl_api_Selector :: ts) zs) : ∃ l ys, zs = sls l :: ys ∧ slsWf Lmax l ∧ Sh tiT.get ts ys := by
  obtain ⟨rows, ys, e, hr, hm, hs⟩ := d_slice T_sl_api_Selector_is (sz_of T_api_Selector_is) h
  obtain ⟨l, hl, hp⟩ := rows_map (f := encSl) (P := slWf Lmax) fun row hrow => by
    obtain ⟨s, y, e, w, hs⟩ := d_sel (hr row hrow)
    rw [sh_nil hs, List.append_nil] at e
    exact ⟨s, e, w⟩
  exact ⟨l, ys, by rw [e, hl]; rfl, ⟨by rw [hl] at hm; simpa using hm, hp⟩, hs⟩

/-- The types that are read so. -/
def readB : List Nat := [T_int, T_string, T_bool, T_sl_string, T_sl_api_Attr, T_api_Attr, T_sl_api_Part, T_api_Part, T_api_Compound, T_sl_api_Pseudo, T_api_Pseudo, T_sl_api_Selector, T_api_Selector]
theorem readB_closed : closedB tiT.get readB = true := by kernel_rfl

theorem v_agg {t sz : Nat} {fs : List (Nat × Nat)} (hT : ∃ i, tiT.get t = some i ∧ i.d = .struct fs ∧ i.size = sz) {x : AV} (h : ShV tiT.get t x) : ∃ ys, x = .agg ys ∧ Sh tiT.get [t] ys := by
  obtain ⟨i, hi, hd, _⟩ := hT
  exact shV_agg hi (by rw [hd]; rfl) h
theorem v_one {t sz : Nat} {d : TD} (hT : ∃ i, tiT.get t = some i ∧ i.d = d ∧ i.size = sz) (ha : d.agg = false) {x : AV} (h : ShV tiT.get t x) : Sh tiT.get [t] [x] := by
  obtain ⟨i, hi, hd, _⟩ := hT
  unfold ShV at h
  rw [hi] at h
  simp only [hd, ha] at h
  exact h
theorem v_sel {x : AV} (h : ShV tiT.get T_api_Selector x) : ∃ s : Sl, x = .agg (encSl s) ∧ slWf Lmax s := by
  obtain ⟨ys, e, hs⟩ := v_agg T_api_Selector_is h
  obtain ⟨s, zs, e2, w, hn⟩ := d_sel hs
  rw [sh_nil hn, List.append_nil] at e2
  exact ⟨s, by rw [e, e2], w⟩
theorem v_sels {x : AV} (h : ShV tiT.get T_sl_api_Selector x) : ∃ l, x = sls l ∧ slsWf Lmax l := by
  obtain ⟨l, ys, e, w, hn⟩ := d_sels (v_one T_sl_api_Selector_is rfl h)
  cases e
  exact ⟨l, rfl, w⟩
theorem v_int {x : AV} (h : ShV tiT.get T_int x) : ∃ n, x = I n ∧ i64 n := by
  obtain ⟨n, ys, e, w, hn⟩ := d_int (v_one T_int_is rfl h)
  cases e
  exact ⟨n, rfl, w⟩
theorem v_bool {x : AV} (h : ShV tiT.get T_bool x) : ∃ b, x = Bo b := by
  obtain ⟨n, ys, e, hn⟩ := d_bool (v_one T_bool_is rfl h)
  cases e
  exact ⟨n, rfl⟩
theorem v_str {x : AV} (h : ShV tiT.get T_string x) : ∃ s, x = Sx s ∧ s.data.size ≤ Lmax := by
  obtain ⟨n, ys, e, w, hn⟩ := d_str (v_one T_string_is rfl h)
  cases e
  exact ⟨n, rfl, w⟩
end Go.Proofs.Ytikcninaepoojaa.Ev
