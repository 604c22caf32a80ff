/- How values of structs and arrays of plain cells are compared. -/
import Derived.Test.YtikcninaepoojaaEv7
import Derived.Laws.StructEq
namespace Go.Proofs.Ytikcninaepoojaa.Ev
set_option linter.unusedVariables false
set_option linter.unusedSimpArgs false

theorem hasK_length : ∀ {ks : List KK} {vs : List Value}, hasK ks vs → vs.length = ks.length
  | [], [], _ => rfl
  | k :: ks, v :: vs, h => by
    have : hasK ks vs := by unfold hasK at h; split at h <;> simp_all
    simp [hasK_length this]
  | [], _ :: _, h => h.elim
  | k :: _, [], h => by cases k <;> exact h.elim

theorem hasK_append : ∀ {ks ls : List KK} {vs us : List Value}, vs.length = ks.length → (hasK (ks ++ ls) (vs ++ us) ↔ hasK ks vs ∧ hasK ls us)
  | [], ls, [], us, _ => by simp [hasK]
  | k :: ks, ls, v :: vs, us, h => by
    have ih := hasK_append (ks := ks) (ls := ls) (vs := vs) (us := us) (by simpa using h)
    cases k <;> cases v <;> simp [hasK, ih, and_assoc]
  | [], _, _ :: _, _, h => by simp at h
  | _ :: _, _, [], _, h => by simp at h

section
variable {P : Program}

/-- How the parts of a value are taken and compared: dd deep. -/
structure EqK (P : Program) (dd : Nat) (t : TypeId) (ks : List KK) : Prop where
  size : P.cellsOf t = ks.length
  info : ∃ i, P.info? t = some i
  part : ∀ (w : World) (xs : Array Value) (off : Nat), hasK ks ((xs.toList.drop off).take ks.length) → ∃ a, (part t xs off).run P w = .ok a w ∧ a.formed P t = true ∧ a.cells.toList = (xs.toList.drop off).take ks.length
  eq : ∀ (w : World) (a b : Value), a.formed P t = true → b.formed P t = true → hasK ks a.cells.toList → hasK ks b.cells.toList → ∃ r : Bool, (Op.equalIn dd t a b).run P w = .ok r w ∧ (r = true ↔ a.cells.toList = b.cells.toList)
  chk : ∀ (em : Bool) (w : World) (a : Value), a.formed P t = true → hasK ks a.cells.toList → (Instr.checkKey em dd t a).run P w = .ok () w

theorem chunk_one {xs : List Value} {off : Nat} (h : ((xs.drop off).take 1).length = 1) : ∃ v, xs[off]? = some v ∧ (xs.drop off).take 1 = [v] := by
  match hl : (xs.drop off).take 1, h with
  | [v], _ =>
    refine ⟨v, ?_, rfl⟩
    have := congrArg (·[0]?) hl
    simpa using this

theorem eqK_plain {dd : Nat} {t : TypeId} {k : KK} {d : TypeDesc} (hp : P.plainKey t = true) (hu : P.underlying t = some d) (hs : P.cellsOf t = 1)
    (h : ∀ v : Value, hasK [k] [v] → v.formed P t = true ∧ v.cells = #[v])
    (he : ∀ w a b, hasK [k] [a] → hasK [k] [b] → ∃ r : Bool, (Op.equalIn dd t a b).run P w = .ok r w ∧ (r = true ↔ a = b))
    (hf : ∀ v : Value, v.formed P t = true → v.cells = #[v]) (hc : ∀ em w v, hasK [k] [v] → (Instr.checkKey em dd t v).run P w = .ok () w) : EqK P dd t [k] := by
  refine ⟨hs, info_of_underlying hu, fun w xs off hk => ?_, fun w a b fa fb ka kb => ?_, fun em w a fa ka => hc em w a (by rw [hf a fa] at ka; exact ka)⟩
  · obtain ⟨v, h1, h2⟩ := chunk_one (hasK_length hk)
    simp only [List.length_cons, List.length_nil] at hk ⊢
    rw [h2] at hk ⊢
    obtain ⟨h3, h4⟩ := h v hk
    exact ⟨v, run_part_plain w hp (by simpa using h1), h3, by rw [h4]⟩
  · rw [hf a fa] at ka ⊢
    rw [hf b fb] at kb ⊢
    obtain ⟨r, h1, h2⟩ := he w a b ka kb
    exact ⟨r, h1, by simpa using h2⟩

theorem eqK_int {t : TypeId} {k : IntKind} (d : Nat) (hu : P.underlying t = some (.int k)) (hs : P.cellsOf t = 1) : EqK P (d + 1) t [.int k] := by
  refine eqK_plain (by simp [Program.plainKey, hu]) hu hs (fun v h => ?_) (fun w a b ha hb => ?_) (fun v h => ?_) (fun em w v h => by cases v <;> simp [hasK] at h <;> simp [Instr.checkKey, run_underlying hu])
  · cases v <;> simp [hasK] at h
    simp [Value.formed, hu, Value.cells]
  · cases a <;> simp [hasK] at ha
    cases b <;> simp [hasK] at hb
    subst ha; subst hb
    rename_i x y
    exact ⟨x == y, by simp [Op.equalIn, run_underlying hu], by simp⟩
  · cases v <;> first | rfl | simp [Value.formed, hu] at h

theorem eqK_bool {t : TypeId} (d : Nat) (hu : P.underlying t = some .bool) (hs : P.cellsOf t = 1) : EqK P (d + 1) t [.bool] := by
  refine eqK_plain (by simp [Program.plainKey, hu]) hu hs (fun v h => ?_) (fun w a b ha hb => ?_) (fun v h => ?_) (fun em w v h => by cases v <;> simp [hasK] at h <;> simp [Instr.checkKey, run_underlying hu])
  · cases v <;> simp [hasK] at h
    simp [Value.formed, hu, Value.cells]
  · cases a <;> simp [hasK] at ha
    cases b <;> simp [hasK] at hb
    rename_i x y
    exact ⟨x == y, by simp [Op.equalIn, run_underlying hu], by simp⟩
  · cases v <;> first | rfl | simp [Value.formed, hu] at h

theorem eqK_string {t : TypeId} (d : Nat) (hu : P.underlying t = some .string) (hs : P.cellsOf t = 1) : EqK P (d + 1) t [.string] := by
  refine eqK_plain (by simp [Program.plainKey, hu]) hu hs (fun v h => ?_) (fun w a b ha hb => ?_) (fun v h => ?_) (fun em w v h => by cases v <;> simp [hasK] at h <;> simp [Instr.checkKey, run_underlying hu])
  · cases v <;> simp [hasK] at h
    simp [Value.formed, hu, Value.cells]
  · cases a <;> simp [hasK] at ha
    cases b <;> simp [hasK] at hb
    rename_i x y
    refine ⟨x.toList == y.toList, run_equalIn_string w d t x y hu, ?_⟩
    rw [beq_iff_eq, ByteArray.toList_eq, ByteArray.toList_eq, Value.string.injEq]
    constructor
    · intro h
      cases x; cases y
      simp only at h
      congr 1
      exact Array.ext' h
    · rintro rfl; rfl
  · cases v <;> first | rfl | simp [Value.formed, hu] at h

/-- One step of a comparison. -/
theorem EqK.step {dd : Nat} {t : TypeId} {ks : List KK} (h : EqK P dd t ks) (w : World) {xs ys : Array Value} {off : Nat} (hx : hasK ks ((xs.toList.drop off).take ks.length)) (hy : hasK ks ((ys.toList.drop off).take ks.length)) :
    ∃ a b r, (Go.part t xs off).run P w = .ok a w ∧ (Go.part t ys off).run P w = .ok b w ∧ (Op.equalIn dd t a b).run P w = .ok r w ∧ (r = true ↔ (xs.toList.drop off).take ks.length = (ys.toList.drop off).take ks.length) := by
  obtain ⟨a, p1, f1, c1⟩ := h.part w xs off hx
  obtain ⟨b, p2, f2, c2⟩ := h.part w ys off hy
  obtain ⟨r, hr, hiff⟩ := h.eq w a b f1 f2 (by rw [c1]; exact hx) (by rw [c2]; exact hy)
  exact ⟨a, b, r, p1, p2, hr, by rw [hiff, c1, c2]⟩

theorem drop_split {xs : List Value} (o n : Nat) : xs.drop o = (xs.drop o).take n ++ xs.drop (o + n) := by
  conv => lhs; rw [← List.take_append_drop n (xs.drop o)]
  rw [List.drop_drop]

theorem hasK_split {ks ls : List KK} {xs : List Value} {o : Nat} (h : hasK (ks ++ ls) (xs.drop o)) : hasK ks ((xs.drop o).take ks.length) ∧ hasK ls (xs.drop (o + ks.length)) := by
  have hl := hasK_length h
  simp at hl
  rw [drop_split o ks.length] at h
  exact (hasK_append (by simp; omega)).1 h

theorem drop_eq_iff {xs ys : List Value} {o n : Nat} (hx : n ≤ xs.length - o) (hy : n ≤ ys.length - o) : xs.drop o = ys.drop o ↔ (xs.drop o).take n = (ys.drop o).take n ∧ xs.drop (o + n) = ys.drop (o + n) := by
  constructor
  · intro h
    rw [← List.drop_drop, ← List.drop_drop, h]
    exact ⟨rfl, rfl⟩
  · intro ⟨h1, h2⟩
    rw [drop_split (xs := xs) o n, drop_split (xs := ys) o n, h1, h2]

theorem eqItems_ok {dd : Nat} {e : TypeId} {ks : List KK} (h : EqK P dd e ks) (w : World) (xs ys : Array Value) (n : Nat) : ∀ k i, i + k = n → hasK (List.replicate k ks).flatten (xs.toList.drop (i * ks.length)) → hasK (List.replicate k ks).flatten (ys.toList.drop (i * ks.length)) →
    ∃ r : Bool, (Op.eqItems dd e (P.cellsOf e) xs ys (List.range' i k)).run P w = .ok r w ∧ (r = true ↔ xs.toList.drop (i * ks.length) = ys.toList.drop (i * ks.length))
  | 0, i, _, hx, hy => by
    simp only [List.replicate_zero, List.flatten_nil] at hx hy
    have h1 := hasK_length hx
    have h2 := hasK_length hy
    simp only [List.length_nil, List.length_eq_zero_iff] at h1 h2
    exact ⟨true, by simp [Op.eqItems], by simp [h1, h2]⟩
  | k + 1, i, hi, hx, hy => by
    rw [List.replicate_succ, List.flatten_cons] at hx hy
    have lx := hasK_length hx
    have ly := hasK_length hy
    simp at lx ly
    obtain ⟨hx1, hx2⟩ := hasK_split hx
    obtain ⟨hy1, hy2⟩ := hasK_split hy
    have e1 : i * ks.length + ks.length = (i + 1) * ks.length := by rw [Nat.add_mul, Nat.one_mul]
    rw [e1] at hx2 hy2
    obtain ⟨a, b, r, p1, p2, p3, hiff⟩ := h.step w hx1 hy1
    obtain ⟨r', hr', hiff'⟩ := eqItems_ok h w xs ys n k (i + 1) (by omega) hx2 hy2
    rw [List.range'_succ]
    simp only [Op.eqItems, Sem.run_bind, h.size] at hr' ⊢
    simp only [p1, p2, p3, Result.andThen_ok]
    rw [drop_eq_iff (n := ks.length) (by simp; omega) (by simp; omega), e1]
    cases r
    · exact ⟨false, by simp, by simp; intro e; exact absurd (hiff.2 e) (by simp)⟩
    · refine ⟨r', by simpa using hr', ?_⟩
      rw [hiff']
      simp [hiff.1 rfl]

theorem agg_parts {t : TypeId} {ks : List KK} (hagg : (∃ n e, P.underlying t = some (.array n e)) ∨ ∃ fs, P.underlying t = some (.struct fs)) (hs : P.cellsOf t = ks.length) (w : World) (xs : Array Value) (off : Nat) (hk : hasK ks ((xs.toList.drop off).take ks.length)) :
    ∃ a, (Go.part t xs off).run P w = .ok a w ∧ a.formed P t = true ∧ a.cells.toList = (xs.toList.drop off).take ks.length := by
  have hlen := hasK_length hk
  have hl : (xs.extract off (off + ks.length)).toList = (xs.toList.drop off).take ks.length := by
    rw [Array.toList_extract]
    simp [List.extract]
  have hz : (xs.extract off (off + ks.length)).size = ks.length := by rw [← Array.length_toList, hl, hlen]
  have hi : ∃ i, P.info? t = some i := by rcases hagg with ⟨n, e, h⟩ | ⟨fs, h⟩ <;> exact info_of_underlying h
  obtain ⟨i, hi⟩ := hi
  refine ⟨.agg (xs.extract off (off + ks.length)), ?_, ?_, hl⟩
  · rcases hagg with ⟨n, e, h⟩ | ⟨fs, h⟩ <;> simp [Go.part, isAgg, run_underlying h, run_sizeOf w hi, hs]
  · rcases hagg with ⟨n, e, h⟩ | ⟨fs, h⟩ <;> simp [Value.formed, h, hs]; all_goals (simpa using hz)

theorem formed_agg {t : TypeId} (hagg : (∃ n e, P.underlying t = some (.array n e)) ∨ ∃ fs, P.underlying t = some (.struct fs)) {a : Value} (h : a.formed P t = true) : ∃ xs, a = .agg xs := by
  rcases hagg with ⟨n, e, hu⟩ | ⟨fs, hu⟩ <;> cases a <;> simp [Value.formed, hu] at h <;> exact ⟨_, rfl⟩

theorem run_chkFields {em : Bool} {dd : Nat} (w : World) (xs : Array Value) : ∀ (fs : List Field) (kss : List (List KK)) (o : Nat), fs.length = kss.length →
    (∀ (i : Nat) (f : Field) (ks : List KK), fs[i]? = some f → kss[i]? = some ks → f.name ≠ "_" ∧ EqK P dd f.type ks ∧ f.offset = o + (kss.take i).flatten.length) →
    hasK kss.flatten (xs.toList.drop o) → ((forIn fs PUnit.unit fun f r => do
      if f.name ≠ "_" then do
        let a ← Go.part f.type xs f.offset
        Instr.checkKey em dd f.type a
        pure (ForInStep.yield PUnit.unit)
      else pure (ForInStep.yield PUnit.unit) : Sem PUnit)).run P w = .ok PUnit.unit w
  | [], [], o, _, _, hx => by simp
  | f :: fs, ks :: kss, o, hl, hall, hx => by
    rw [List.flatten_cons] at hx
    obtain ⟨hx1, hx2⟩ := hasK_split hx
    obtain ⟨hn, h, ho⟩ := hall 0 f ks rfl rfl
    simp at ho
    obtain ⟨a, p1, f1, c1⟩ := h.part w xs o hx1
    have p2 := h.chk em w a f1 (by rw [c1]; exact hx1)
    have ih := run_chkFields (em := em) w xs fs kss (o + ks.length) (by simpa using hl) (fun i g ls hg hls => by
      obtain ⟨q1, q2, q3⟩ := hall (i + 1) g ls (by simpa using hg) (by simpa using hls)
      exact ⟨q1, q2, by rw [q3]; simp; omega⟩) hx2
    simp only [List.forIn_cons, Sem.run_bind, hn, ne_eq, not_false_eq_true, if_true, ho, Result.andThen_ok, p1, p2, Sem.run_pure]
    exact ih
  | [], _ :: _, _, h, _, _ => by simp at h
  | _ :: _, [], _, h, _, _ => by simp at h

theorem run_chkItems {em : Bool} {dd : Nat} {e : TypeId} {ks : List KK} (h : EqK P dd e ks) {i0 : TypeInfo} (hi0 : P.info? e = some i0) (w : World) (xs : Array Value) (n : Nat) : ∀ k i, i + k = n → hasK (List.replicate k ks).flatten (xs.toList.drop (i * ks.length)) →
    ((forIn (List.range' i k) PUnit.unit fun j r => do
      let s ← sizeOf e
      let a ← Go.part e xs (j * s)
      Instr.checkKey em dd e a
      pure (ForInStep.yield PUnit.unit) : Sem PUnit)).run P w = .ok PUnit.unit w
  | 0, i, _, hx => by simp
  | k + 1, i, hi, hx => by
    rw [List.replicate_succ, List.flatten_cons] at hx
    obtain ⟨hx1, hx2⟩ := hasK_split hx
    have e1 : i * ks.length + ks.length = (i + 1) * ks.length := by rw [Nat.add_mul, Nat.one_mul]
    rw [e1] at hx2
    obtain ⟨a, p1, f1, c1⟩ := h.part w xs (i * ks.length) hx1
    have p2 := h.chk em w a f1 (by rw [c1]; exact hx1)
    have ih := run_chkItems (em := em) h hi0 w xs n k (i + 1) (by omega) hx2
    rw [List.range'_succ]
    simp only [List.forIn_cons, Sem.run_bind, run_sizeOf w hi0, h.size, Result.andThen_ok, p1, p2, Sem.run_pure]
    exact ih

theorem eqK_array {dd : Nat} {t e : TypeId} {n : Nat} {ks : List KK} (h : EqK P dd e ks) (hu : P.underlying t = some (.array n e)) (hs : P.cellsOf t = n * ks.length) : EqK P (dd + 1) t (List.replicate n ks).flatten := by
  have hl : (List.replicate n ks).flatten.length = n * ks.length := by simp
  refine ⟨by rw [hs, hl], info_of_underlying hu, fun w xs off hk => agg_parts (.inl ⟨_, _, hu⟩) (by rw [hs, hl]) w xs off hk, fun w a b fa fb ka kb => ?_, fun em w a fa ka => ?_⟩
  case refine_2 =>
    obtain ⟨xs, rfl⟩ := formed_agg (.inl ⟨_, _, hu⟩) fa
    obtain ⟨i, hi⟩ := h.info
    rw [Instr.checkKey]
    simp only [Sem.run_bind, run_underlying hu, Result.andThen_ok]
    simp only [Std.Legacy.Range.forIn_eq_forIn_range', Std.Legacy.Range.size, Nat.sub_zero, Nat.add_one_sub_one, Nat.div_one]
    have := run_chkItems (em := em) h hi w xs n n 0 (by omega) (by simpa [Value.cells] using ka)
    rw [this]; rfl
  obtain ⟨xs, rfl⟩ := formed_agg (.inl ⟨_, _, hu⟩) fa
  obtain ⟨ys, rfl⟩ := formed_agg (.inl ⟨_, _, hu⟩) fb
  obtain ⟨i, hi⟩ := h.info
  rw [run_equalIn_array w dd xs ys hu hi, List.range_eq_range']
  have := eqItems_ok h w xs ys n n 0 (by omega) (by simpa [Value.cells] using ka) (by simpa [Value.cells] using kb)
  simpa [Value.cells] using this

theorem eqFields_ok {dd : Nat} (w : World) (xs ys : Array Value) : ∀ (fs : List Field) (kss : List (List KK)) (o : Nat), fs.length = kss.length →
    (∀ (i : Nat) (f : Field) (ks : List KK), fs[i]? = some f → kss[i]? = some ks → f.name ≠ "_" ∧ EqK P dd f.type ks ∧ f.offset = o + (kss.take i).flatten.length) →
    hasK kss.flatten (xs.toList.drop o) → hasK kss.flatten (ys.toList.drop o) → ∃ r : Bool, (Op.eqFields dd xs ys fs).run P w = .ok r w ∧ (r = true ↔ xs.toList.drop o = ys.toList.drop o)
  | [], [], o, _, _, hx, hy => by
    simp only [List.flatten_nil] at hx hy
    have h1 := hasK_length hx
    have h2 := hasK_length hy
    simp only [List.length_nil, List.length_eq_zero_iff] at h1 h2
    exact ⟨true, by simp [Op.eqFields], by simp [h1, h2]⟩
  | f :: fs, ks :: kss, o, hl, hall, hx, hy => by
    rw [List.flatten_cons] at hx hy
    have lx := hasK_length hx
    have ly := hasK_length hy
    simp at lx ly
    obtain ⟨hx1, hx2⟩ := hasK_split hx
    obtain ⟨hy1, hy2⟩ := hasK_split hy
    obtain ⟨hn, h, ho⟩ := hall 0 f ks rfl rfl
    simp at ho
    obtain ⟨a, b, r, p1, p2, p3, hiff⟩ := h.step w hx1 hy1
    obtain ⟨r', hr', hiff'⟩ := eqFields_ok w xs ys fs kss (o + ks.length) (by simpa using hl) (fun i g ls hg hls => by
      obtain ⟨q1, q2, q3⟩ := hall (i + 1) g ls (by simpa using hg) (by simpa using hls)
      exact ⟨q1, q2, by rw [q3]; simp; omega⟩) hx2 hy2
    simp only [Op.eqFields, hn, ne_eq, not_false_eq_true, if_true, Sem.run_bind, ho, p1, p2, p3, Result.andThen_ok]
    rw [drop_eq_iff (n := ks.length) (by simp; omega) (by simp; omega)]
    cases r
    · exact ⟨false, by simp, by simp; intro e; exact absurd (hiff.2 e) (by simp)⟩
    · refine ⟨r', by simpa using hr', ?_⟩
      rw [hiff']
      simp [hiff.1 rfl]
  | [], _ :: _, _, h, _, _, _ => by simp at h
  | _ :: _, [], _, h, _, _, _ => by simp at h

theorem eqK_struct {dd : Nat} {t : TypeId} {fs : Array Field} {kss : List (List KK)} (hu : P.underlying t = some (.struct fs)) (hst : P.stoodInHeld t = false) (hs : P.cellsOf t = kss.flatten.length) (hl : fs.toList.length = kss.length)
    (hall : ∀ (i : Nat) (f : Field) (ks : List KK), fs.toList[i]? = some f → kss[i]? = some ks → f.name ≠ "_" ∧ EqK P dd f.type ks ∧ f.offset = (kss.take i).flatten.length) : EqK P (dd + 1) t kss.flatten := by
  refine ⟨hs, info_of_underlying hu, fun w xs off hk => agg_parts (.inr ⟨_, hu⟩) hs w xs off hk, fun w a b fa fb ka kb => ?_, fun em w a fa ka => ?_⟩
  case refine_2 =>
    obtain ⟨xs, rfl⟩ := formed_agg (.inr ⟨_, hu⟩) fa
    rw [Instr.checkKey]
    simp only [Sem.run_bind, run_underlying hu, Result.andThen_ok]
    rw [← Array.forIn_toList]
    have := run_chkFields (em := em) w xs fs.toList kss 0 hl (fun i f ks h1 h2 => by
      obtain ⟨q1, q2, q3⟩ := hall i f ks h1 h2
      exact ⟨q1, q2, by rw [q3]; simp⟩) (by simpa [Value.cells] using ka)
    rw [this]; rfl
  obtain ⟨xs, rfl⟩ := formed_agg (.inr ⟨_, hu⟩) fa
  obtain ⟨ys, rfl⟩ := formed_agg (.inr ⟨_, hu⟩) fb
  have hfs : P.fieldsOf t = fs := by simp [Program.fieldsOf, hu]
  rw [run_equalIn_struct w dd t xs ys (by rw [hfs]; exact hu) hst, hfs]
  have := eqFields_ok w xs ys fs.toList kss 0 hl (fun i f ks h1 h2 => by
    obtain ⟨q1, q2, q3⟩ := hall i f ks h1 h2
    exact ⟨q1, q2, by rw [q3]; simp⟩) (by simpa [Value.cells] using ka) (by simpa [Value.cells] using kb)
  simpa [Value.cells] using this

/-! ### by computing -/
def flatK (P : Program) : Nat → TypeId → Option (List KK)
  | 0, _ => none
  | D + 1, t => match P.underlying t with
    | some .bool => bif Nat.beq (P.cellsOf t) 1 then some [.bool] else none
    | some (.int k) => bif Nat.beq (P.cellsOf t) 1 then some [.int k] else none
    | some .string => bif Nat.beq (P.cellsOf t) 1 then some [.string] else none
    | some (.array n e) => match flatK P D e with
      | some ks => bif Nat.beq (P.cellsOf t) (n * ks.length) then some (List.replicate n ks).flatten else none
      | none => none
    | some (.struct fs) => match fieldsK (fun e => flatK P D e) 0 fs.toList with
      | some kss => bif !(P.stoodInHeld t) && Nat.beq (P.cellsOf t) kss.flatten.length then some kss.flatten else none
      | none => none
    | _ => none
where
  fieldsK (k : TypeId → Option (List KK)) : Nat → List Field → Option (List (List KK))
  | _, [] => some []
  | o, f :: fs => bif Nat.beq f.offset o && !(f.name == "_") then
      match k f.type with
      | some ks => (fieldsK k (o + ks.length) fs).map (ks :: ·)
      | none => none
    else none

theorem fieldsK_ok {k : TypeId → Option (List KK)} : ∀ (fs : List Field) (o : Nat) (kss : List (List KK)), flatK.fieldsK k o fs = some kss → fs.length = kss.length ∧
    ∀ (i : Nat) (f : Field) (ks : List KK), fs[i]? = some f → kss[i]? = some ks → f.name ≠ "_" ∧ k f.type = some ks ∧ f.offset = o + (kss.take i).flatten.length
  | [], o, kss, h => by simp [flatK.fieldsK] at h; subst h; exact ⟨rfl, fun i f ks h => by simp at h⟩
  | f :: fs, o, kss, h => by
    unfold flatK.fieldsK at h
    cases hb : (Nat.beq f.offset o && !(f.name == "_")) with
    | false => simp only [hb, cond_false] at h; cases h
    | true =>
      simp only [hb, cond_true] at h
      simp only [Bool.and_eq_true, Bool.not_eq_true', beq_eq_false_iff_ne] at hb
      split at h
      case h_2 => cases h
      rename_i ks hks
      simp only [Option.map_eq_some_iff] at h
      obtain ⟨kss', h1, rfl⟩ := h
      obtain ⟨q1, q2⟩ := fieldsK_ok fs _ kss' h1
      refine ⟨by simp [q1], fun i g ls hg hls => ?_⟩
      cases i with
      | zero => simp at hg hls; subst hg; subst hls; exact ⟨hb.2, hks, by simpa using Nat.eq_of_beq_eq_true hb.1⟩
      | succ i =>
        obtain ⟨r1, r2, r3⟩ := q2 i g ls (by simpa using hg) (by simpa using hls)
        exact ⟨r1, r2, by rw [r3]; simp; omega⟩

theorem flatK_ok (d : Nat) : ∀ (D : Nat) (t : TypeId) (ks : List KK), flatK P D t = some ks → EqK P (d + D) t ks
  | 0, t, ks, h => by simp [flatK] at h
  | D + 1, t, ks, h => by
    have ih := flatK_ok d D
    unfold flatK at h
    have beq : ∀ {a b : Nat} {x : List KK}, (bif Nat.beq a b then some x else none) = some ks → a = b ∧ x = ks := fun {a b x} h => by
      cases hb : Nat.beq a b with
      | false => simp [hb] at h
      | true => simp [hb] at h; exact ⟨Nat.eq_of_beq_eq_true hb, h⟩
    split at h
    · rename_i hu; obtain ⟨h1, rfl⟩ := beq h; exact eqK_bool _ hu h1
    · rename_i hu; obtain ⟨h1, rfl⟩ := beq h; exact eqK_int _ hu h1
    · rename_i hu; obtain ⟨h1, rfl⟩ := beq h; exact eqK_string _ hu h1
    · rename_i hu
      split at h
      case h_2 => cases h
      rename_i ls hls
      obtain ⟨h1, rfl⟩ := beq h
      exact eqK_array (ih _ _ hls) hu h1
    · rename_i fs hu
      split at h
      case h_2 => cases h
      rename_i kss hkss
      cases hb : (!(P.stoodInHeld t) && Nat.beq (P.cellsOf t) kss.flatten.length) with
      | false => simp only [hb, cond_false] at h; cases h
      | true =>
        simp only [hb, cond_true, Option.some.injEq] at h
        subst h
        simp only [Bool.and_eq_true, Bool.not_eq_true'] at hb
        obtain ⟨q1, q2⟩ := fieldsK_ok _ _ _ hkss
        exact eqK_struct hu hb.1 (Nat.eq_of_beq_eq_true hb.2) q1 (fun i f ls h1 h2 => by
          obtain ⟨r1, r2, r3⟩ := q2 i f ls h1 h2
          exact ⟨r1, ih _ _ r2, by simpa using r3⟩)
    · cases h

/-- The keys of a type, by computing. -/
def keysOf (P : Program) (t : TypeId) : Option (List KK) :=
  match P.underlying t with
  | some (.array _ _) => match P.eqGuardType P.depth t with
    | false => flatK P 6 t
    | true => none
  | some (.struct _) => match P.eqGuardType P.depth t with
    | false => flatK P 6 t
    | true => none
  | _ => none

theorem keysOf_ok {t : TypeId} {ks : List KK} (h : keysOf P t = some ks) : KeyOk P t ks := by
  have main : ((∃ n e, P.underlying t = some (.array n e)) ∨ ∃ fs, P.underlying t = some (.struct fs)) → P.eqGuardType P.depth t = false → flatK P 6 t = some ks → KeyOk P t ks := by
    intro hagg hg hk
    have K := flatK_ok (P := P) 9994 6 t ks hk
    refine ⟨hg, fun xs ys hx hy w => ?_, ?_⟩
    case refine_2 => exact fun em xs hx w => K.chk em w (.agg xs) (by
      have := hasK_length hx
      have hs := K.size
      rcases hagg with ⟨n, e, hu⟩ | ⟨fs, hu⟩ <;> simp [Value.formed, hu, hs] <;> simpa using this) (by simpa [Value.cells] using hx)
    have f : ∀ zs : Array Value, hasK ks zs.toList → (Value.agg zs).formed P t = true := by
      intro zs hz
      have := hasK_length hz
      have hs := K.size
      rcases hagg with ⟨n, e, hu⟩ | ⟨fs, hu⟩ <;> simp [Value.formed, hu, hs] <;> simpa using this
    obtain ⟨r, h1, h2⟩ := K.eq w (.agg xs) (.agg ys) (f xs hx) (f ys hy) (by simpa [Value.cells] using hx) (by simpa [Value.cells] using hy)
    exact ⟨r, h1, h2.trans ⟨fun h => Array.ext' h, fun h => by rw [h]⟩⟩
  unfold keysOf at h
  split at h
  · rename_i n e hu
    split at h
    · rename_i hg; exact main (.inl ⟨n, e, hu⟩) hg h
    · cases h
  · rename_i fs hu
    split at h
    · rename_i hg; exact main (.inr ⟨fs, hu⟩) hg h
    · cases h
  · cases h
end
end Go.Proofs.Ytikcninaepoojaa.Ev
