/- What the predicates of TkWp say, the evaluator's operations do. -/
import Derived.Test.YtikcninaepoojaaWp
namespace Go.Proofs.Ytikcninaepoojaa.Ev
open Go.RowKit (Below)
set_option linter.unusedVariables false
set_option linter.unusedSimpArgs false
set_option linter.unusedSectionVars false

theorem loadA_of {ti : Nat → Option TI} {t : Nat} {i : TI} (h : ti t = some i) (H : Hp) (x : AV) : loadA ti H t x = ldA i.d.agg i.size H x := by
  unfold loadA ldA; rw [h]; rfl

theorem partA_of {ti : Nat → Option TI} {t : Nat} {j : TI} (h : ti t = some j) (cs : List AV) (off : Nat) : partA ti t cs off = cutR j.d.agg off j.size cs := by
  unfold partA cutR; simp only [h]

theorem appendA_of {ti : Nat → Option TI} {s t e : Nat} {a b z : _} {j i : TI} {str : Bool} (hs : ti s = some ⟨.slice e, a, b, z⟩) (ht : ti t = some j) (he : ti e = some i) (hstr : isStrT j.d = some str) (hz : Nat.beq i.zero.length i.size = true) (H : Hp) (x y : AV) :
    appendA ti H s t x y = appR str i.size i.bytes H x y := by
  unfold appendA appR
  rw [hs, ht]
  simp only [he, hz, Bool.true_and]
  have : kindOk j.d y = bif str then isStr y else notStr y := by
    cases hd : j.d <;> rw [hd] at hstr <;> simp only [isStrT, Option.some.injEq, reduceCtorEq] at hstr <;> subst hstr <;> rfl
  rw [this]
  cases str <;> rfl

theorem binR_of {ti : Nat → Option TI} {keys : Nat → Option (List KK)} {op : BinOp} {t : Nat} {x y v : AV} (h : binR op x y = some v) : binA ti keys op t x y = some v := by
  unfold binR at h
  unfold binA
  split at h
  · rename_i a b ha hb
    rw [ha, hb]
    simp only
    split at h
    · rename_i u hu; cases h; rw [hu]
    · cases h
  · cases h

theorem sbin_eq_none {op : BinOp} {a b : Value} (h : ∀ k n, a ≠ .int k n) (h' : ∀ s, a ≠ .string s) : sbin op a b = none := by
  unfold sbin
  split
  · exact absurd rfl (h _ _)
  · exact absurd rfl (h' _)
  · rfl

/-- A comparison of what is no number and no string. -/
theorem binA_eq {ti : Nat → Option TI} {keys : Nat → Option (List KK)} {op : BinOp} {t : Nat} {x y v : AV} {b : Bool} (hx : ∀ k n, x ≠ .lit (.int k n)) (hx2 : ∀ s, x ≠ .lit (.string s)) (hx3 : toI x = none) (hx4 : toS x = none)
    (h : eqA ti keys t x y = some (.lit b)) (hv : tfB op b = some v) : binA ti keys op t x y = some v := by
  have e2 : symA op x y = none := by
    unfold symA
    rw [hx3, hx4]
  unfold binA
  split
  · rename_i u hu
    split at hu
    · rename_i a b ha hb
      rw [sbin_eq_none (fun k n e => ?_) (fun s e => ?_)] at hu
      · cases hu
      · subst e; cases x <;> simp [lit?] at ha; exact hx _ _ (by rw [ha])
      · subst e; cases x <;> simp [lit?] at ha; exact hx2 _ (by rw [ha])
    · cases hu
  rw [e2]
  simp only
  cases op <;> simp only [tfB, Option.some.injEq, reduceCtorEq] at hv <;> subst hv <;> simp only [h] <;> rfl

theorem eqBool_of {ti : Nat → Option TI} {keys : Nat → Option (List KK)} {op : BinOp} {t : Nat} {a b z} {x y v : AV} (ht : ti t = some ⟨.bool, a, b, z⟩) (h : eqBoolR op x y = some v) : binA ti keys op t x y = some v := by
  unfold eqBoolR at h
  split at h
  · exact binA_eq (by simp) (by simp) rfl rfl (by unfold eqA; rw [ht]) h
  · cases h

theorem eqPtr_of {ti : Nat → Option TI} {keys : Nat → Option (List KK)} {op : BinOp} {t e : Nat} {a b z} {x y v : AV} (ht : ti t = some ⟨.ptr e, a, b, z⟩) (h : eqPtrR op x y = some v) : binA ti keys op t x y = some v := by
  unfold eqPtrR at h
  split at h <;> first
    | (exact binA_eq (by simp) (by simp) rfl rfl (by unfold eqA; rw [ht]) h)
    | cases h

theorem eqFn_of {ti : Nat → Option TI} {keys : Nat → Option (List KK)} {op : BinOp} {t : Nat} {a b z} {x y v : AV} (ht : ti t = some ⟨.func, a, b, z⟩) (h : eqFnR op x y = some v) : binA ti keys op t x y = some v := by
  unfold eqFnR at h
  split at h <;> first
    | (exact binA_eq (by simp) (by simp) rfl rfl (by unfold eqA; rw [ht]) h)
    | cases h

theorem eqC_of : ∀ {ks : List KK} {xs ys : List AV} {b : Bool}, eqC ks xs ys = some b → eqCells ks xs ys = some (.lit b)
  | ks, xs, ys, b, h => by
    unfold eqC at h
    split at h
    · cases h; rfl
    · rename_i k ks k1 a xs k2 b' ys
      cases hk : (decide (k = k1) && decide (k = k2)) with
      | false => rw [hk] at h; cases h
      | true =>
        rw [hk] at h
        simp only [cond_true, Option.map_eq_some_iff] at h
        obtain ⟨r, hr, rfl⟩ := h
        have := eqC_of hr
        simp only [eqCells, toI, hk, cond_true, this, Option.map_some, eqI]
        congr 1
        cases decide (a = b') <;> cases r <;> rfl
    · simp only [Option.map_eq_some_iff] at h
      obtain ⟨r, hr, rfl⟩ := h
      have := eqC_of hr
      rename_i a _ b' _ 
      simp only [eqCells, this, Option.map_some]
      congr 1
      cases (a == b') <;> cases r <;> rfl
    · simp only [Option.map_eq_some_iff] at h
      obtain ⟨r, hr, rfl⟩ := h
      have := eqC_of hr
      rename_i a _ b' _ 
      simp only [eqCells, toS, this, Option.map_some, eqS]
      congr 1
      cases beqS a b' <;> cases r <;> rfl
    · cases h

theorem agg_to {x : AV} (h : isAggA x = true) : toI x = none ∧ toS x = none := by
  cases x <;> first | exact ⟨rfl, rfl⟩ | skip
  · rename_i v; cases v <;> first | exact ⟨rfl, rfl⟩ | (simp [isAggA] at h)
  · simp [isAggA] at h
  · simp [isAggA] at h

theorem eqAgg_of {ti : Nat → Option TI} {keys : Nat → Option (List KK)} {op : BinOp} {t : Nat} {i : TI} {ks : List KK} {x y v : AV} (ht : ti t = some i) (hd : (∃ fs, i.d = .struct fs) ∨ ∃ n e, i.d = .array n e) (hk : keys t = some ks) (h : eqAggR ks op x y = some v) : binA ti keys op t x y = some v := by
  unfold eqAggR at h
  cases ha : (isAggA x && isAggA y) with
  | false => rw [ha] at h; cases h
  | true =>
    rw [ha] at h
    simp only [cond_true] at h
    split at h
    · rename_i b hb
      have hb := eqC_of hb
      have hax : isAggA x = true := by cases hh : isAggA x with | true => rfl | false => rw [hh] at ha; cases ha
      refine binA_eq (b := b) (by rintro k n rfl; cases hax) (by rintro s rfl; cases hax) (agg_to hax).1 (agg_to hax).2 ?_ h
      obtain ⟨d, sz, by', z⟩ := i
      rcases hd with ⟨fs, hd⟩ | ⟨n, e, hd⟩
      · simp only at hd; subst hd
        unfold eqA; rw [ht]; simp only [hk, ha, cond_true, hb]
      · simp only at hd; subst hd
        unfold eqA; rw [ht]; simp only [hk, ha, cond_true, hb]
    · cases h

theorem placed_ok {place : Nat → Option (Nat × Nat)} {T : List AV} : ∀ {ps : List (Nat × Operand)} {z l : List AV}, bldR z (placed place T ps) = some l → fillA place z (ps.map fun p => (p.1, evO T p.2)) = some l
  | [], z, l, h => h
  | (i, x) :: r, z, l, h => by
    simp only [placed] at h
    simp only [List.map_cons, fillA]
    cases hp : place i with
    | none => rw [hp] at h; simp [bldR, AV.cells, AV.isAny] at h
    | some p =>
      obtain ⟨o, s⟩ := p
      rw [hp] at h
      simp only [bldR] at h ⊢
      cases hc : (Nat.beq (evO T x).cells.length s && (Nat.ble (o + (evO T x).cells.length) z.length && !(evO T x).isAny)) with
      | false => rw [hc] at h; cases h
      | true => rw [hc] at h; simp only [cond_true] at h ⊢; exact placed_ok h

theorem zrow_of (i : TI) (n : Nat) : zeroRow i n = zrow i.zero n := rfl

theorem slSl0_of {ti : Nat → Option TI} {t e : Nat} {i j : TI} (ht : ti t = some i) (hd : i.d = .slice e) (he : ti e = some j) (H : Hp) (x : AV) (lo hi mx : Option Int) : sliceA ti H t x lo hi mx = slSl0 j.size x lo hi mx := by
  obtain ⟨d, s, b, z⟩ := i
  simp only at hd; subst hd
  unfold sliceA
  rw [ht]
  simp only [he]
  rfl

theorem intO_of {T : List AV} (o : Option Operand) : optInt T o = intO (o.map (evO T)) := by
  cases o <;> rfl

theorem cvToStr_of {ti : Nat → Option TI} {H : Hp} {si : TI} {e : Nat} {a b z} {x y : AV} (hs : si.d = .slice e) (he : ti e = some ⟨.int .u8, a, b, z⟩) (hc : cvToStr H x = some y) : bytesToStrA ti H si x = some y := by
  unfold cvToStr at hc
  unfold bytesToStrA
  rw [hs]
  simp only [he]
  split at hc
  · cases hc; rfl
  · cases hc
  · rename_i hx hy
    have : isStr x = false := by
      cases x <;> first | rfl | skip
      rename_i v
      cases v <;> first | rfl | skip
      exact absurd rfl (hy _)
    split
    · rename_i a b; exact absurd rfl (hx _ _)
    · rename_i hz; simp only [this, cond_false]; exact hc

section
variable {P : Program} (C : Ctx P)

theorem opK_ok {T : List AV} {H : Hp} {oper : Oper} {K : AV → Hp → Prop} (h : opK C T H oper.op K) : ∃ x H1, K x H1 ∧ (evOp C.ti C.keys C.as T H oper = some (x, H1) ∨ (quietOp oper.op = false ∧ Op1 C T H oper x H1)) := by
  obtain ⟨dst, o, ty, pos, after, guard⟩ := oper
  simp only at h
  unfold opK at h
  split at h
  · exact ⟨_, _, h, .inl rfl⟩
  · exact ⟨_, _, h, .inl rfl⟩
  · rename_i c a b
    obtain ⟨x, hx, hk⟩ := bnd_ok h
    unfold pickR at hx
    split at hx
    · rename_i t ht
      cases hx
      exact ⟨_, _, hk, .inl (by simp only [evOp, ht, pickA_eq])⟩
    · cases hx
  · rename_i t
    obtain ⟨i, hi, hk⟩ := tyK_ok h
    exact ⟨_, _, hk, .inl (by simp only [evOp, allocA, hi])⟩
  · rename_i t x
    unfold boxK at h
    cases ha : (evO T x).isAny with
    | true => rw [ha] at h; exact h.elim
    | false => rw [ha] at h; exact ⟨_, _, h, .inl (by simp only [evOp, ha, cond_false])⟩
  · rename_i t ps
    obtain ⟨i, hi, hk⟩ := tyK_ok h
    split at hk
    · rename_i place hp
      obtain ⟨l, hl, hk⟩ := bnd_ok hk
      exact ⟨_, _, hk, .inl (by simp only [evOp, buildA, hi, hp, placed_ok hl, Option.map_some])⟩
    · exact hk.elim
  · rename_i t n ps
    obtain ⟨i, hi, hk⟩ := tyK_ok h
    split at hk
    case h_2 => exact hk.elim
    rename_i e he
    obtain ⟨j, hj, hk⟩ := tyK_ok hk
    split at hk
    case h_2 => exact hk.elim
    rename_i hb
    obtain ⟨p, hp, hk⟩ := bnd_ok hk
    obtain ⟨d, s, b, z⟩ := i
    simp only at he; subst he
    unfold bldSlR at hp
    split at hp
    case h_2 => cases hp
    rename_i cs hcs
    cases hq : Nat.beq cs.length (n * j.size) with
    | false => rw [hq] at hp; cases hp
    | true =>
      rw [hq] at hp; cases hp
      refine ⟨_, _, hk, .inl ?_⟩
      simp only [evOp, buildSliceA, hi, hj, hb, cond_true, zrow_of, placed_ok hcs, hq]
  · rename_i t a
    obtain ⟨i, hi, hk⟩ := tyK_ok h
    obtain ⟨x, hx, hk⟩ := bnd_ok hk
    exact ⟨_, _, hk, .inl (by simp only [evOp, loadA_of hi, hx, Option.map_some])⟩
  · rename_i t a x
    obtain ⟨i, hi, hk⟩ := tyK_ok h
    obtain ⟨H1, hx, hk⟩ := bnd_ok hk
    unfold stA at hx
    refine ⟨_, _, hk, .inl ?_⟩
    simp only [evOp, hi]
    cases hc : (Nat.beq (evO T x).cells.length i.size && !(evO T x).isAny) with
    | false => rw [hc] at hx; cases hx
    | true => rw [hc] at hx; simp only [cond_true] at hx ⊢; rw [hx]; rfl
  · rename_i x
    obtain ⟨y, hy, hk⟩ := bnd_ok h
    refine ⟨_, _, hk, .inl ?_⟩
    unfold nilR at hy
    simp only [evOp]
    split at hy <;> first | (cases hy; rename_i e; rw [e]) | cases hy
  · rename_i op t x y t2
    obtain ⟨i, hi, hk⟩ := tyK_ok h
    have fin : ∀ v, binA C.ti C.keys op t (evO T x) (evO T y) = some v → K v H → ∃ x_1 H1, K x_1 H1 ∧ (evOp C.ti C.keys C.as T H ⟨dst, .binOp op t x y t2, ty, pos, after, guard⟩ = some (x_1, H1) ∨ (quietOp (.binOp op t x y t2) = false ∧ Op1 C T H ⟨dst, .binOp op t x y t2, ty, pos, after, guard⟩ x_1 H1)) :=
      fun v hv hk => ⟨_, _, hk, .inl (by simp only [evOp, hv, Option.map_some])⟩
    obtain ⟨d, s, b, z⟩ := i
    split at hk
    · obtain ⟨v, hv, hk⟩ := bnd_ok hk; exact fin v (binR_of hv) hk
    · obtain ⟨v, hv, hk⟩ := bnd_ok hk; exact fin v (binR_of hv) hk
    · rename_i hd; simp only at hd; subst hd; obtain ⟨v, hv, hk⟩ := bnd_ok hk; exact fin v (eqBool_of hi hv) hk
    · rename_i hd; simp only at hd; subst hd; obtain ⟨v, hv, hk⟩ := bnd_ok hk; exact fin v (eqPtr_of hi hv) hk
    · rename_i hd; simp only at hd; subst hd; obtain ⟨v, hv, hk⟩ := bnd_ok hk; exact fin v (eqFn_of hi hv) hk
    · rename_i fs hd
      split at hk
      · rename_i ks hks; obtain ⟨v, hv, hk⟩ := bnd_ok hk; exact fin v (eqAgg_of hi (.inl ⟨_, hd⟩) hks hv) hk
      · exact hk.elim
    · rename_i n e hd
      split at hk
      · rename_i ks hks; obtain ⟨v, hv, hk⟩ := bnd_ok hk; exact fin v (eqAgg_of hi (.inr ⟨_, _, hd⟩) hks hv) hk
      · exact hk.elim
    · exact hk.elim
  · rename_i op t x
    obtain ⟨v, hv, hk⟩ := bnd_ok h
    refine ⟨_, _, hk, .inl ?_⟩
    unfold unR at hv
    simp only [evOp]
    split at hv
    · rename_i v' hv'
      rw [hv']
      simp only
      split at hv
      · rename_i u hu; cases hv; rw [hu]; rfl
      · cases hv
    · cases hv
  · rename_i s d x
    obtain ⟨si, hsi, hk⟩ := tyK_ok h
    obtain ⟨di, hdi, hk⟩ := tyK_ok hk
    have fin : ∀ p, convA C.ti H s d (evO T x) = some p → K p.1 p.2 → ∃ x_1 H1, K x_1 H1 ∧ (evOp C.ti C.keys C.as T H ⟨dst, .convert s d x, ty, pos, after, guard⟩ = some (x_1, H1) ∨ (quietOp (.convert s d x) = false ∧ Op1 C T H ⟨dst, .convert s d x, ty, pos, after, guard⟩ x_1 H1)) :=
      fun p hp hk => ⟨_, _, hk, .inl (by simp only [evOp, hp])⟩
    split at hk
    · rename_i k hd
      obtain ⟨v, hv, hk⟩ := bnd_ok hk
      refine fin (v, H) ?_ hk
      unfold cvInt at hv
      split at hv
      · rename_i k' n hx; cases hv; simp only [convA, hsi, hdi, hd, hx]
      · cases hv
    · rename_i hd
      split at hk
      · rename_i hs
        obtain ⟨v, hv, hk⟩ := bnd_ok hk
        refine fin (v, H) ?_ hk
        unfold cvStr at hv
        split at hv
        · rename_i b hx; cases hv; simp only [convA, hsi, hdi, hd, hx]
        · cases hv
      · rename_i e hs
        split at hk
        · rename_i a b z he
          obtain ⟨v, hv, hk⟩ := bnd_ok hk
          refine fin (v, H) ?_ hk
          have h1 := cvToStr_of (ti := C.ti) hs he hv
          have : isStr (evO T x) = false := by
            cases hx : evO T x <;> first | rfl | skip
            rename_i v
            cases v <;> first | rfl | skip
            rw [hx] at hv; simp [cvToStr] at hv
          simp only [convA, hsi, hdi, hd]
          split
          · rename_i b hx; rw [hx] at this; cases this
          · rw [h1]; rfl
        · exact hk.elim
      · exact hk.elim
    · rename_i e hd
      split at hk
      · rename_i a b z he
        obtain ⟨p, hp, hk⟩ := bnd_ok hk
        refine fin p ?_ hk
        unfold cvToBytes at hp
        split at hp
        · rename_i b hx; cases hp; simp only [convA, hsi, hdi, hd, hx, he]
        · cases hp
      · exact hk.elim
    · exact hk.elim
  · rename_i fn first caps
    split at h
    · exact ⟨_, _, h, .inl rfl⟩
    · exact h.elim
  · rename_i t l c
    obtain ⟨i, hi, hk⟩ := tyK_ok h
    split at hk
    case h_2 => exact hk.elim
    rename_i e he
    obtain ⟨j, hj, hk⟩ := tyK_ok hk
    obtain ⟨p, hp, hk⟩ := bnd_ok hk
    obtain ⟨d, s, b, z⟩ := i
    simp only at he; subst he
    refine ⟨_, _, hk, .inl ?_⟩
    unfold mkSlR at hp
    simp only [evOp, makeSliceA, hi]
    split at hp
    · rename_i l' c' hl hc
      rw [hl, hc]
      simp only [hj]
      cases hcond : (decide (0 ≤ l') && (decide (l' ≤ c') && (Nat.ble c'.toNat 9223372036854775807 && Nat.ble (j.bytes * c'.toNat) 281474976710656))) with
      | false => rw [hcond] at hp; cases hp
      | true => rw [hcond] at hp; cases hp; rfl
    · cases hp
  · rename_i t x lo hi mx
    obtain ⟨i, hi', hk⟩ := tyK_ok h
    have fin : ∀ v, (match optInt T lo, optInt T hi, optInt T mx with | some lo, some hi, some mx => (sliceA C.ti H t (evO T x) lo hi mx).map fun y => (y, H) | _, _, _ => none) = some (v, H) → K v H → ∃ x_1 H1, K x_1 H1 ∧ (evOp C.ti C.keys C.as T H ⟨dst, .slice t x lo hi mx, ty, pos, after, guard⟩ = some (x_1, H1) ∨ (quietOp (.slice t x lo hi mx) = false ∧ Op1 C T H ⟨dst, .slice t x lo hi mx, ty, pos, after, guard⟩ x_1 H1)) :=
      fun v hv hk => ⟨_, _, hk, .inl (by simp only [evOp]; exact hv)⟩
    split at hk
    · rename_i hd
      split at hk
      · obtain ⟨v, hv, hk⟩ := bnd_ok hk
        refine fin v ?_ hk
        unfold slStr at hv
        rw [intO_of, intO_of]
        split at hv
        · rename_i l h' hl hh
          rw [hl, hh]
          obtain ⟨d, s, b, z⟩ := i
          simp only at hd; subst hd
          split at hv
          · rename_i s hs
            simp only [optInt, sliceA, hi', hs, hv, Option.map_some]
          · cases hv
        · cases hv
      · exact hk.elim
    · rename_i e hd
      obtain ⟨j, hj, hk⟩ := tyK_ok hk
      obtain ⟨v, hv, hk⟩ := bnd_ok hk
      refine fin v ?_ hk
      unfold slSl at hv
      rw [intO_of, intO_of, intO_of]
      split at hv
      · rename_i l h' m hl hh hm
        rw [hl, hh, hm]
        simp only [slSl0_of hi' hd hj, hv, Option.map_some]
      · cases hv
    · rename_i n e hd
      obtain ⟨j, hj, hk⟩ := tyK_ok hk
      obtain ⟨v, hv, hk⟩ := bnd_ok hk
      refine fin v ?_ hk
      unfold slArr at hv
      rw [intO_of, intO_of, intO_of]
      split at hv
      · rename_i l h' m hl hh hm
        rw [hl, hh, hm]
        obtain ⟨d, s, b, z⟩ := i
        simp only at hd; subst hd
        have e : sliceArrA C.ti H n e (evO T x) l h' m = some v := by unfold sliceArrA; rw [hj]; exact hv
        simp only [sliceA, hi', e, Option.map_some]
      · cases hv
    · exact hk.elim
  · rename_i t x f
    obtain ⟨i, hi, hk⟩ := tyK_ok h
    split at hk
    case h_2 => exact hk.elim
    rename_i fs hd
    split at hk
    case h_2 => exact hk.elim
    rename_i off ft hf
    obtain ⟨j, hj, hk⟩ := tyK_ok hk
    split at hk
    · exact hk.elim
    · rename_i hb
      obtain ⟨y, hy, hk⟩ := bnd_ok hk
      obtain ⟨d, s, b, z⟩ := i
      simp only at hd; subst hd
      exact ⟨_, _, hk, .inl (by simp only [evOp, fieldAddrA, hi, hf, hj, hb, cond_false, hy, Option.map_some])⟩
  · rename_i t x f
    obtain ⟨i, hi, hk⟩ := tyK_ok h
    split at hk
    case h_2 => exact hk.elim
    rename_i fs hd
    split at hk
    case h_2 => exact hk.elim
    rename_i off ft hf
    obtain ⟨j, hj, hk⟩ := tyK_ok hk
    obtain ⟨y, hy, hk⟩ := bnd_ok hk
    obtain ⟨d, s, b, z⟩ := i
    simp only at hd; subst hd
    refine ⟨_, _, hk, .inl ?_⟩
    unfold partR at hy
    simp only [evOp, fieldA, hi, hf]
    split at hy
    · rename_i cs hx; rw [hx]; simp only [partA_of hj, hy, Option.map_some]
    · rename_i vs hx; rw [hx]; simp only [partA_of hj, hy, Option.map_some]
    · cases hy
  · rename_i t x i
    obtain ⟨ty', hi, hk⟩ := tyK_ok h
    obtain ⟨d, s, b, z⟩ := ty'
    split at hk
    · rename_i n e hd
      simp only at hd; subst hd
      obtain ⟨j, hj, hk⟩ := tyK_ok hk
      obtain ⟨y, hy, hk⟩ := bnd_ok hk
      refine ⟨_, _, hk, .inl ?_⟩
      unfold ixaArr at hy
      simp only [evOp, indexAddrA, hi]
      split at hy
      · rename_i k hk'; rw [hk']; simp only [hj, hy, Option.map_some]
      · cases hy
    · rename_i e hd
      simp only at hd; subst hd
      obtain ⟨j, hj, hk⟩ := tyK_ok hk
      obtain ⟨y, hy, hk⟩ := bnd_ok hk
      refine ⟨_, _, hk, .inl ?_⟩
      unfold ixaSl at hy
      simp only [evOp, indexAddrA, hi]
      split at hy
      · rename_i k hk'; rw [hk']; simp only [hj]; exact congrArg (Option.map fun y => (y, H)) hy
      · cases hy
    · exact hk.elim
  · rename_i t x i
    obtain ⟨ty', hi, hk⟩ := tyK_ok h
    obtain ⟨d, s, b, z⟩ := ty'
    split at hk
    · rename_i n e hd
      simp only at hd; subst hd
      obtain ⟨j, hj, hk⟩ := tyK_ok hk
      obtain ⟨y, hy, hk⟩ := bnd_ok hk
      refine ⟨_, _, hk, .inl ?_⟩
      unfold ixArr at hy
      simp only [evOp, indexA, hi]
      split at hy
      · rename_i k hk'
        rw [hk']
        simp only [hj]
        cases hc : (decide (0 ≤ k) && decide (k < (n : Int))) with
        | false => rw [hc] at hy; cases hy
        | true =>
          rw [hc] at hy
          simp only [cond_true] at hy ⊢
          unfold partR at hy
          split at hy
          · rename_i cs hx; rw [hx]; simp only [partA_of hj, hy, Option.map_some]
          · rename_i vs hx; rw [hx]; simp only [partA_of hj, hy, Option.map_some]
          · cases hy
      · cases hy
    · rename_i hd
      simp only at hd; subst hd
      obtain ⟨y, hy, hk⟩ := bnd_ok hk
      refine ⟨_, _, hk, .inl ?_⟩
      unfold ixStr at hy
      simp only [evOp, indexA, hi]
      split at hy
      · rename_i k hk'; rw [hk']; exact congrArg (Option.map fun y => (y, H)) hy
      · cases hy
    · exact hk.elim
  · rename_i x i
    obtain ⟨y, hy, hk⟩ := bnd_ok h
    refine ⟨_, _, hk, .inl ?_⟩
    unfold exR at hy
    simp only [evOp]
    split at hy
    · rename_i vs hx; rw [hx]; simp only [hy, Option.map_some]
    · cases hy
  · rename_i args ts
    split at h
    case h_2 => exact h.elim
    rename_i t x ht hargs
    obtain ⟨ty', hi, hk⟩ := tyK_ok h
    obtain ⟨d, s, b, z⟩ := ty'
    have fin : ∀ v, lenA C.ti t (evO T x) = some v → K v H → ∃ x_1 H1, K x_1 H1 ∧ (evOp C.ti C.keys C.as T H ⟨dst, .call ⟨.builtin .len, args, ts⟩, ty, pos, after, guard⟩ = some (x_1, H1) ∨ (quietOp (.call ⟨.builtin .len, args, ts⟩) = false ∧ Op1 C T H ⟨dst, .call ⟨.builtin .len, args, ts⟩, ty, pos, after, guard⟩ x_1 H1)) :=
      fun v hv hk => ⟨_, _, hk, .inl (by simp only [evOp, builtinA, ht, hargs, List.map_cons, List.map_nil, hv, Option.map_some])⟩
    split at hk
    · rename_i hd
      simp only at hd; subst hd
      obtain ⟨v, hv, hk⟩ := bnd_ok hk
      refine fin v ?_ hk
      unfold lenStr at hv
      unfold lenA
      rw [hi]
      split at hv
      · rename_i s hs; cases hv; rw [hs]
      · cases hv
    · rename_i e hd
      simp only at hd; subst hd
      obtain ⟨v, hv, hk⟩ := bnd_ok hk
      refine fin v ?_ hk
      unfold lenSl at hv
      unfold lenA
      rw [hi]
      split at hv <;> first | (rename_i hs; cases hv; rw [hs]) | cases hv
    · rename_i n e hd
      simp only at hd; subst hd
      exact fin _ (by unfold lenA; rw [hi]) hk
    · exact hk.elim
  · rename_i args ts
    split at h
    case h_2 => exact h.elim
    rename_i s t x y hargs
    obtain ⟨si, hsi, hk⟩ := tyK_ok h
    obtain ⟨tj, htj, hk⟩ := tyK_ok hk
    split at hk
    case h_2 => exact hk.elim
    rename_i e str hd hstr
    obtain ⟨i, hi, hk⟩ := tyK_ok hk
    split at hk
    case h_2 => exact hk.elim
    rename_i hz
    obtain ⟨p, hp, hkk⟩ := bnd_ok hk
    obtain ⟨d, s', b, z⟩ := si
    simp only at hd; subst hd
    exact ⟨_, _, hkk, .inl (by simp only [evOp, builtinA, hargs, List.map_cons, List.map_nil, appendA_of hsi htj hi hstr hz, hp])⟩
  · obtain ⟨v, hv, hk⟩ := bnd_ok h
    exact ⟨_, _, hk, .inl (by simp only [evOp, builtinA, hv, Option.map_some])⟩
  · obtain ⟨v, hv, hk⟩ := bnd_ok h
    exact ⟨_, _, hk, .inl (by simp only [evOp, builtinA, hv, Option.map_some])⟩
  · rename_i f args ts
    unfold callV at h
    split at h
    · rename_i g caps hf
      obtain ⟨r, H1, hg, hk⟩ := h
      exact ⟨_, _, hk, .inr ⟨rfl, .call rfl hf hg⟩⟩
    · rename_i id hf
      obtain ⟨r, H1, hg, hk⟩ := h
      exact ⟨_, _, hk, .inr ⟨rfl, .yield rfl hf hg⟩⟩
    · exact h.elim
  · exact ⟨_, _, h, .inr ⟨rfl, .sem (by intro c hc; cases hc) (semOk_make C)⟩⟩
  · rename_i t m k ok
    obtain ⟨i, hi, hk⟩ := tyK_ok h
    split at hk
    case h_2 => exact hk.elim
    rename_i kt et hd
    obtain ⟨ie, hie, hk⟩ := tyK_ok hk
    split at hk
    case h_2 => exact hk.elim
    rename_i ag ks z hmk hz
    obtain ⟨y, hy, hk⟩ := bnd_ok hk
    exact ⟨_, _, hk, .inr ⟨rfl, .sem (by intro c hc; cases hc) (semOk_lookup C hi hd hie hmk hz hy)⟩⟩
  · rename_i t m k v
    obtain ⟨i, hi, hk⟩ := tyK_ok h
    split at hk
    case h_2 => exact hk.elim
    rename_i kt et hd
    split at hk
    case h_2 => exact hk.elim
    rename_i ag ks hmk
    obtain ⟨y, hy, hk⟩ := bnd_ok hk
    exact ⟨_, _, hk, .inr ⟨rfl, .sem (by intro c hc; cases hc) (semOk_put C hi hd hmk hy)⟩⟩
  · exact h.elim
end
end Go.Proofs.Ytikcninaepoojaa.Ev
