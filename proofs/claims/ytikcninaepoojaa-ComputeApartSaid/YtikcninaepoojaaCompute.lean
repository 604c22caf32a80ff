/- What package compute computes. -/
import Derived.Test.YtikcninaepoojaaDc
import Derived.Test.YtikcninaepoojaaFrz
namespace Go.Proofs.Ytikcninaepoojaa.Ev
set_option linter.unusedVariables false
set_option linter.unusedSimpArgs false
variable {σ : Sig}

def capI (n : Int) : Int := if 2147483647 < (if n < -2147483647 then -2147483647 else n) then 2147483647 else if n < -2147483647 then -2147483647 else n
theorem capI_le (n : Int) : -2147483647 ≤ capI n ∧ capI n ≤ 2147483647 := by unfold capI; split <;> split <;> omega
theorem capI_in {n : Int} (h : -2147483647 ≤ n ∧ n ≤ 2147483647) : capI n = n := by unfold capI; split <;> split at * <;> omega
def timesI (a b : Int) : Int := capI ((capI a * capI b).tdiv 1000)
theorem mul_le (a b : Int) : -4611686018427387904 ≤ capI a * capI b ∧ capI a * capI b ≤ 4611686018427387904 := by
  have h1 := capI_le a
  have h2 := capI_le b
  generalize capI a = x at *
  generalize capI b = y at *
  have e1 : (2147483647 - x) * (2147483647 + y) ≥ 0 := Int.mul_nonneg (by omega) (by omega)
  have e2 : (2147483647 + x) * (2147483647 - y) ≥ 0 := Int.mul_nonneg (by omega) (by omega)
  have e3 : (2147483647 - x) * (2147483647 - y) ≥ 0 := Int.mul_nonneg (by omega) (by omega)
  have e4 : (2147483647 + x) * (2147483647 + y) ≥ 0 := Int.mul_nonneg (by omega) (by omega)
  rw [Int.sub_mul, Int.mul_add, Int.mul_add] at e1
  rw [Int.add_mul, Int.mul_sub, Int.mul_sub] at e2
  rw [Int.sub_mul, Int.mul_sub, Int.mul_sub] at e3
  rw [Int.add_mul, Int.mul_add, Int.mul_add] at e4
  generalize x * y = z at *
  omega
theorem tdiv_le {z : Int} (h : -4611686018427387904 ≤ z ∧ z ≤ 4611686018427387904) (d : Int) (hd : 1 ≤ d) : -4611686018427387904 ≤ z.tdiv d ∧ z.tdiv d ≤ 4611686018427387904 := by
  rcases Int.le_total 0 z with h0 | h0
  · have e : z.tdiv d = z / d := Int.tdiv_eq_ediv_of_nonneg h0
    have : 0 ≤ z / d := Int.ediv_nonneg h0 (by omega)
    have : z / d ≤ z := Int.ediv_le_self _ h0
    omega
  · have e : z.tdiv d = -((-z).tdiv d) := by rw [Int.neg_tdiv]; omega
    have e2 : (-z).tdiv d = (-z) / d := Int.tdiv_eq_ediv_of_nonneg (by omega)
    have : 0 ≤ (-z) / d := Int.ediv_nonneg (by omega) (by omega)
    have : (-z) / d ≤ -z := Int.ediv_le_self _ (by omega)
    omega

def lenI (k n sz : Int) : Int × Bool := if k = 2 then (capI n, true) else if k = 3 then (timesI sz (capI n), true) else (0, false)
def sizeI (k n par : Int) : Int × Bool := if k = 4 then ((timesI par n).tdiv 100, true) else lenI k n par
def spaceI (p k n sz : Int) : Int × Bool := if p = 4 ∧ k = 1 then (-1, true) else if p = 4 ∧ k = 4 then (-2 - capI n, true) else if k = 4 then (1099511627776 + capI n, true) else lenI k n sz
def kindsI (p : Int) : Int := if p = 0 then 6 else if p = 2 ∨ p = 3 then 1 else if p = 6 ∨ p = 7 then 5 else 0
def ownI (p k n par sz : Int) : Int × Bool := if p = 1 then sizeI k n par else if p = 4 ∨ p = 5 then spaceI p k n sz else if p = 7 ∧ k = 1 then (1099511627776, true) else if k ≠ 0 ∧ k = kindsI p then (capI n, true) else (0, false)
def initI (p : Int) : Int := if p = 1 then 16000 else if p = 3 then 2 else if p = 4 then -1 else if p = 6 then 1000 else if p = 7 then 1099511627776 else 0
def inhI (p : Int) : Bool := decide (0 ≤ p) && decide (p ≤ 2)
def roundI (p k n up par sz : Int) : Int := if k = 7 then up else if k = 8 then initI p else if (ownI p k n par sz).2 = true then (ownI p k n par sz).1 else if inhI p = true then up else initI p

def arr8 (f : Nat → Int) : List AV := [I (f 0), I (f 1), I (f 2), I (f 3), I (f 4), I (f 5), I (f 6), I (f 7)]
def warr (k n : Nat → Int) : List AV := [I (k 0), I (n 0), I (k 1), I (n 1), I (k 2), I (n 2), I (k 3), I (n 3), I (k 4), I (n 4), I (k 5), I (n 5), I (k 6), I (n 6), I (k 7), I (n 7)]
@[simp] theorem ldL_arr8 (f : Nat → Int) : ldL true 8 (arr8 f) = some (.agg (arr8 f)) := rfl
@[simp] theorem ldL_warr (k n : Nat → Int) : ldL true 16 (warr k n) = some (.agg (warr k n)) := rfl
@[simp] theorem ov2 (a b c d : AV) : overlay [a, b] 0 [c, d] = [c, d] := rfl
theorem lt8 {k : Nat} (h : k < 8) : k = 0 ∨ k = 1 ∨ k = 2 ∨ k = 3 ∨ k = 4 ∨ k = 5 ∨ k = 6 ∨ k = 7 := by omega
theorem arr8_drop {f : Nat → Int} {k : Nat} (h : k < 8) : ∃ r, (arr8 f).drop k = I (f k) :: r := by
  rcases lt8 h with rfl | rfl | rfl | rfl | rfl | rfl | rfl | rfl <;> exact ⟨_, rfl⟩
theorem arr8_set {f : Nat → Int} {k : Nat} (h : k < 8) (v : Int) : overlay (arr8 f) k [I v] = arr8 fun i => if i = k then v else f i := by
  rcases lt8 h with rfl | rfl | rfl | rfl | rfl | rfl | rfl | rfl <;> simp [arr8, overlay]
theorem warr_cut {k n : Nat → Int} {i : Nat} (h : i < 8) : ((warr k n).drop (i * 2)).take 2 = [I (k i), I (n i)] := by
  rcases lt8 h with rfl | rfl | rfl | rfl | rfl | rfl | rfl | rfl <;> rfl
theorem arr8_len (f : Nat → Int) : (arr8 f).length = 8 := rfl
theorem arr8_one (f : Nat → Int) : (arr8 f).all AV.one = true := rfl
theorem arr8_noId (f : Nat → Int) : noIds (arr8 f) = true := rfl
theorem arr8_ld {f : Nat → Int} {k : Nat} (h : k < 8) : ldL false 1 ((arr8 f).drop k) = some (I (f k)) := by
  obtain ⟨r, hr⟩ := arr8_drop (f := f) h
  rw [hr]; simp
theorem ix8 {k : Nat} (h : k < 8) (x : AV) : ixaArr 8 1 x (I k) = shiftA x k := by
  unfold ixaArr
  have h1 : (0 : Int) ≤ k := by omega
  have h2 : (k : Int) < 8 := by omega
  simp [intA, h2]
theorem wr_k {k : Nat} (h : k < 8) : wr .i64 ((k : Int) + 1) = ((k + 1 : Nat) : Int) := by rw [wr64 (by omega) (by omega)]; rfl

/-! ### numbers -/
theorem cut_ok (n : Int) (H : Hp) : Good Try.prog σ n_num_cut_int [I n, I (-2147483647), I 2147483647] H (I (capI n)) H :=
  good_pure (num_cut_int.run (by simp [maxA, minA, toI, maxStep, minStep, capI])) rfl rfl H
theorem cap_ok (n : Int) (H : Hp) : Good Try.prog σ n_num_Cap [I n] H (I (capI n)) H :=
  good_pure (num_Cap.run (callK_of (cut_ok n _) rfl)) rfl rfl H
theorem times_ok (a b : Int) (H : Hp) : Good Try.prog σ n_num_Times [I a, I b] H (I (timesI a b)) H := by
  refine good_pure (num_Times.run (callK_of (cap_ok a _) (callK_of (cap_ok b _) ?_))) rfl rfl H
  have h1 := mul_le a b
  have h2 := tdiv_le h1 1000 (by omega)
  simp [b_quo]
  rw [wr64 (n := capI a * capI b) (by omega) (by omega), wr64 (by omega) (by omega)]
  exact callK_of (cap_ok _ _) rfl
theorem part_ok (n : Int) (h : -2147483647 ≤ n ∧ n ≤ 2147483647) (H : Hp) : Good Try.prog σ n_compute_part_int [I n] H (I (n.tdiv 100)) H := by
  have h2 := tdiv_le (z := n) (by omega) 100 (by omega)
  refine good_pure (compute_part_int.run ?_) rfl rfl H
  simp [b_quo]
  rw [wr64 (by omega) (by omega)]

/-! ### a property -/
theorem length_ok (k n sz : Int) (H : Hp) : Good Try.prog σ n_compute_length [.agg [I k, I n], I sz] H (.tup [I (lenI k n sz).1, Bo (lenI k n sz).2]) H := by
  refine good_by (fun K hK => compute_length.run ?_) rfl rfl H
  simp
  refine callK_of (cap_ok n _) ?_
  simp
  split
  · rename_i h; simp [lenI, h] at hK; exact hK _
  rename_i h2
  split
  · rename_i h; simp [lenI, h] at hK; exact callK_of (times_ok _ _ _) (hK _)
  · rename_i h; simp [lenI, h, h2] at hK; exact hK _
theorem size_ok (k n par : Int) (H : Hp) : Good Try.prog σ n_compute_size [.agg [I k, I n], I par] H (.tup [I (sizeI k n par).1, Bo (sizeI k n par).2]) H := by
  refine good_by (fun K hK => compute_size.run ?_) rfl rfl H
  simp [ldL_all]
  split
  · rename_i h; simp [sizeI, h] at hK; exact callK_of (times_ok _ _ _) (callK_of (part_ok _ (capI_le _) _) (hK _))
  · rename_i h; simp [sizeI, h] at hK; exact callK_of (length_ok _ _ _ _) (by simpa using hK _)
theorem space_ok (p k n sz : Int) (H : Hp) : Good Try.prog σ n_compute_space [I p, .agg [I k, I n], I sz] H (.tup [I (spaceI p k n sz).1, Bo (spaceI p k n sz).2]) H := by
  refine good_by (fun K hK => compute_space.run ?_) rfl rfl H
  have hc := capI_le n
  simp
  refine callK_of (cap_ok n _) ?_
  simp [ldL_all]
  have e1 : wr .i64 (-2 - capI n) = -2 - capI n := wr64 (by omega) (by omega)
  have e2 : wr .i64 (1099511627776 + capI n) = 1099511627776 + capI n := wr64 (by omega) (by omega)
  rw [e1, e2]
  have fin : (∀ H, K (.tup [I (lenI k n sz).1, Bo (lenI k n sz).2]) H) → ∀ H, callK Try.prog σ n_compute_length [.agg [I k, I n], I sz] H fun x21 H22 => bnd (exR x21 0) fun x23 => bnd (exR x21 1) fun x24 => K (.tup [x23, x24]) H22 := fun hK H => callK_of (length_ok _ _ _ _) (by simpa using hK _)
  by_cases hp : p = 4
  · by_cases h1 : k = 1
    · simp [spaceI, hp, h1] at hK ⊢; exact hK _
    · by_cases h4 : k = 4
      · simp [spaceI, hp, h1, h4] at hK ⊢; exact hK _
      · simp only [hp, h1, h4, if_true, if_false]
        exact fin (by simpa [spaceI, hp, h1, h4] using hK) _
  · by_cases h4 : k = 4
    · simp [spaceI, hp, h4] at hK ⊢; exact hK _
    · simp only [hp, h4, if_true, if_false]
      exact fin (by simpa [spaceI, hp, h4] using hK) _
theorem kinds_ok (p : Int) (H : Hp) : Good Try.prog σ n_compute_kinds [I p] H (I (kindsI p)) H := by
  refine good_by (fun K hK => compute_kinds.run ?_) rfl rfl H
  simp
  split
  · rename_i h; simp [kindsI, h] at hK; exact hK _
  rename_i h0
  have j1 : ∀ (y3 y6 : AV) (b : Bool) (H : Hp), (∀ H, K (I (if b = true then 5 else 0)) H) → compute_kinds.J1 σ K y3 y6 (Bo b) H := by
    intro y3 y6 b H hr
    refine compute_kinds.J1_step ?_
    cases b <;> simp at hr ⊢ <;> exact hr _
  have j0 : ∀ (b : Bool) (H : Hp), (∀ H, K (I (if b = true then 1 else if p = 6 ∨ p = 7 then 5 else 0)) H) → compute_kinds.J0 σ K (I p) (Bo b) (.lit undef) H := by
    intro b H hr
    refine compute_kinds.J0_step ?_
    cases b
    · simp at hr ⊢
      split
      · rename_i h
        refine j1 _ _ _ _ ?_
        simpa [h] using hr
      · rename_i h
        refine j1 _ _ _ _ ?_
        by_cases h7 : p = 7 <;> simpa [h, h7] using hr
    · simp at hr ⊢; exact hr _
  split
  · rename_i h
    refine j0 _ _ ?_
    simpa [kindsI, h] using hK
  · rename_i h
    refine j0 _ _ ?_
    by_cases h3 : p = 3 <;> simpa [kindsI, h0, h, h3] using hK
theorem init_ok (p : Int) (H : Hp) : Good Try.prog σ n_value_Initial [I p] H (I (initI p)) H := by
  refine good_by (fun K hK => value_Initial.run ?_) rfl rfl H
  unfold initI at hK
  simp
  split
  · rename_i h; rw [if_pos h] at hK; exact hK _
  rename_i h; rw [if_neg h] at hK
  split
  · rename_i h; rw [if_pos h] at hK; exact hK _
  rename_i h; rw [if_neg h] at hK
  split
  · rename_i h; rw [if_pos h] at hK; exact hK _
  rename_i h; rw [if_neg h] at hK
  split
  · rename_i h; rw [if_pos h] at hK; exact hK _
  rename_i h; rw [if_neg h] at hK
  split
  · rename_i h; rw [if_pos h] at hK; exact hK _
  rename_i h; rw [if_neg h] at hK
  exact hK _
theorem inh_ok (p : Int) (H : Hp) : Good Try.prog σ n_value_Inherits [I p] H (Bo (inhI p)) H := by
  refine good_by (fun K hK => value_Inherits.run ?_) rfl rfl H
  unfold inhI at hK
  by_cases h : 0 ≤ p
  · simp [h] at hK ⊢; exact hK _
  · simp [h] at hK ⊢; exact hK _
theorem own_ok (p k n : Int) (ps ss : Nat → Int) (H : Hp) : Good Try.prog σ n_compute_own [I p, .agg [I k, I n], .ip (arr8 ps), .ip (arr8 ss)] H (.tup [I (ownI p k n (ps 1) (ss 1)).1, Bo (ownI p k n (ps 1) (ss 1)).2]) H := by
  refine good_by (fun K hK => compute_own.run ?_) rfl rfl H
  have i1' : ∀ f : Nat → Int, ixaArr 8 1 (.ip (arr8 f)) (I 1) = some (.ip (arr8 f).tail) := fun f => rfl
  have l1' : ∀ f : Nat → Int, ldL false 1 (arr8 f).tail = some (I (f 1)) := fun f => rfl
  simp [ldL_all, i1', l1']
  split
  · rename_i h1; simp [ownI, h1] at hK; exact callK_of (size_ok _ _ _ _) (by simpa using hK _)
  rename_i h1
  split
  · rename_i h4; subst h4; simp [ownI] at hK; exact callK_of (space_ok _ _ _ _ _) (by simpa using hK _)
  rename_i h4
  split
  · rename_i h5; subst h5; simp [ownI] at hK; exact callK_of (space_ok _ _ _ _ _) (by simpa using hK _)
  rename_i h5
  have hK' : ¬ (p = 7 ∧ k = 1) → ∀ H, K (.tup [I (if k ≠ 0 ∧ k = kindsI p then (capI n, true) else (0, false)).1, Bo (if k ≠ 0 ∧ k = kindsI p then (capI n, true) else (0, false)).2]) H := by
    intro h71
    have : ownI p k n (ps 1) (ss 1) = if k ≠ 0 ∧ k = kindsI p then (capI n, true) else (0, false) := by
      unfold ownI
      rw [if_neg h1, if_neg (by omega), if_neg h71]
    rwa [this] at hK
  have rest : ¬ (p = 7 ∧ k = 1) → (if k = 0 then K (.tup [I 0, Bo false]) (Hp.empty.new (.cells [I k, I n] true)) else
      callK Try.prog σ n_compute_kinds [I p] (Hp.empty.new (.cells [I k, I n] true)) fun x39 H40 => (H40.get Hp.empty.n = some (.cells [I k, I n] true) ∧ (bnd (binR .eql (I k) x39) fun x41 => ifB x41 (bnd (ldO false 1 1 (H40.get Hp.empty.n)) fun x43 => callK Try.prog σ n_num_Cap [x43] H40 fun x44 H45 => K (.tup [x44, Bo true]) H45) (K (.tup [I 0, Bo false]) H40)))) := by
    intro h71
    have hK' := hK' h71
    split
    · rename_i h; simp [h] at hK'; exact hK' _
    · rename_i hk
      refine callK_of (kinds_ok _ _) ⟨by simp, ?_⟩
      simp
      split
      · rename_i h; rw [if_pos ⟨hk, h⟩] at hK'; exact callK_of (cap_ok _ _) (hK' _)
      · rename_i h; rw [if_neg (fun e => h e.2)] at hK'; exact hK' _
  split
  · rename_i h7
    split
    · rename_i h; simp [ownI, h7, h] at hK; exact hK _
    · rename_i h; exact rest (fun e => h e.2)
  · rename_i h7; exact rest (fun e => h7 e.1)

/-! ### the style -/
def Par (H : Hp) (y : AV) (ps : Nat → Int) : Prop := y = .ip (arr8 ps) ∨ ∃ id, y = .ptr id 0 ∧ id < H.n ∧ H.get id = some (.cells (arr8 ps) true)
theorem Par.fz {H : Hp} {y : AV} {ps : Nat → Int} (h : Par H y ps) : Fz H y (.ip (arr8 ps)) := by
  rcases h with rfl | ⟨id, rfl, _, hg⟩
  · exact .refl (by simp [noId, arr8_noId])
  · exact .ptr (fun j => (arr8 ps).getD j .any) hg (fun j z hz => by simp [hz]) (fun j z hz => by
      simp [hz]; exact .refl (noIds_get (arr8_noId ps) j z hz))
theorem Par.nil {H : Hp} {y : AV} {ps : Nat → Int} (h : Par H y ps) : nilR y = some y := by
  rcases h with rfl | ⟨id, rfl, _⟩ <;> rfl
theorem Par.at_ {H : Hp} {y : AV} {ps : Nat → Int} (h : Par H y ps) {k : Nat} (hk : k < 8) {K : AV → Prop} (hK : K (I (ps k))) : bnd (ixaArr 8 1 y (I k)) fun x => bnd (ldA false 1 H x) K := by
  rw [ix8 hk]
  rcases h with rfl | ⟨id, rfl, _, hg⟩
  · simp [arr8_ld hk]; exact hK
  · simp [hg, arr8_ld hk]; exact hK
theorem Par.keep {H H' : Hp} {y : AV} {ps : Nat → Int} (h : Par H y ps) (hs : ∀ j, j < H.n → (∃ o, y = .ptr j o) → H'.get j = H.get j) (hn : H.n ≤ H'.n) : Par H' y ps := by
  rcases h with rfl | ⟨id, rfl, hl, hg⟩
  · exact .inl rfl
  · exact .inr ⟨id, rfl, by omega, by rw [hs id hl ⟨_, rfl⟩]; exact hg⟩

def szI (ps k n : Nat → Int) : Int := roundI 1 (k 1) (n 1) (ps 1) (ps 1) 0
def styI (ps k n : Nat → Int) (i : Nat) : Int := roundI i (k i) (n i) (ps i) (ps 1) (szI ps k n)
theorem own_sz {p k n par sz sz' : Int} (h : p = 4 ∨ p = 5 → sz = sz') : ownI p k n par sz = ownI p k n par sz' := by
  unfold ownI
  by_cases h1 : p = 1
  · simp [h1]
  · by_cases h4 : p = 4 ∨ p = 5
    · rw [h h4]
    · simp [h1, h4]

theorem Of_loop (ps k n : Nat → Int) {y0 y3 : AV} {ir is : Nat} {K : AV → Hp → Prop} (hK : ∀ H, K (.agg (arr8 (styI ps k n))) H) : ∀ (m i : Nat) (H : Hp) (y7 y9 : AV), 8 - i = m → i ≤ 8 → Par H y0 ps → (∀ o, y0 ≠ .ptr is o) →
    H.get is = some (.cells (arr8 fun j => if j < i then styI ps k n j else 0) true) → is < H.n → (∃ cs, cs.length = 8 ∧ H.get ir = some (.cells cs true)) → ir ≠ is → ir < H.n →
    compute_Of.L1 σ K y0 y3 (.ptr ir 0) (.ptr is 0) y7 y9 (.agg (warr k n)) (I i) H := by
  intro m
  induction m with
  | zero =>
    intro i H y7 y9 hm hi hP hne hs hsl hr hrs hrl
    have e : i = 8 := by omega
    subst e
    obtain ⟨cs, hcl, hr⟩ := hr
    refine compute_Of.L1_step ?_
    simp [hs, ldL_all, arr8_len, hr, hcl, arr8_one, overlay_all]
    have : (arr8 fun j => if j < 8 then styI ps k n j else 0) = arr8 (styI ps k n) := rfl
    rw [this]
    exact hK _
  | succ m ih =>
    intro i H y7 y9 hm hi hP hne hs hsl hr hrs hrl
    have hi8 : i < 8 := by omega
    obtain ⟨cs, hcl, hr⟩ := hr
    have hni : is ≠ H.n := by omega
    have hnr : ir ≠ H.n := by omega
    -- the new block
    have hP2 : ∀ b o, Par ((H.new b).set H.n o) y0 ps := by
      intro b o
      refine hP.keep (fun j hj _ => ?_) (by simp)
      have : j ≠ H.n := by omega
      simp [this]
    have next : ∀ (b : Blk) (o : Option Blk) (v : Int), v = styI ps k n i → compute_Of.J2 σ K y0 y3 (.ptr ir 0) (.ptr is 0) (I i) (I v) (.agg (warr k n)) (I i) ((H.new b).set H.n o) := by
      intro b o v hv
      refine compute_Of.J2_step ?_
      rw [ix8 hi8]
      have hl : i + 1 ≤ (arr8 fun j => if j < i then styI ps k n j else 0).length := by rw [arr8_len]; omega
      simp [hni, hs, hl, arr8_set hi8]
      rw [wr_k hi8]
      refine ih (i + 1) _ _ _ (by omega) (by omega) ((hP2 b o).keep (fun j hj ho => ?_) (by simp)) hne ?_ (by simp; omega) ⟨cs, hcl, by simp [hrs, hnr, hr]⟩ hrs (by simp; omega)
      · have : j ≠ is := fun e => by obtain ⟨o', ho'⟩ := ho; exact hne o' (by rw [ho', e])
        simp [this]
      · simp
        congr 1
        funext j
        by_cases hj : j = i
        · subst hj; simp [hv]
        · have : j < i + 1 ↔ j < i := by omega
          simp [hj, this]
    refine compute_Of.L1_step ?_
    have hix : ixArr true 8 2 (.agg (warr k n)) (I i) = some (.agg [I (k i), I (n i)]) := by
      have h2 : (i : Int) < 8 := by omega
      simp [ixArr, intA, warr_cut hi8, h2]
    have hlt : (i : Int) < 8 := by omega
    simp [hlt, hix, ldL, pack]
    have hfz : FzL ((H.new (.cells [I 0, I 0] true)).set H.n (some (.cells [I (k i), I (n i)] true))) [I i, .agg [I (k i), I (n i)], y0, .ptr is 0] [I i, .agg [I (k i), I (n i)], .ip (arr8 ps), .ip (arr8 fun j => if j < i then styI ps k n j else 0)] :=
      .cons (.refl rfl) (.cons (.refl rfl) (.cons (hP2 _ _).fz (.cons (.ptr (fun j => (arr8 fun j => if j < i then styI ps k n j else 0).getD j .any) (by simp [hni]; exact hs) (fun j z hz => by simp [hz]) (fun j z hz => by simp [hz]; exact .refl (noIds_get (arr8_noId _) j z hz))) .nil)))
    refine callK_of (Good.frzA (own_ok (i : Int) (k i) (n i) ps _ Hp.empty) hfz rfl) ?_
    have eo : ownI i (k i) (n i) (ps 1) (if 1 < i then styI ps k n 1 else 0) = ownI i (k i) (n i) (ps 1) (szI ps k n) := own_sz fun h => by
      rw [if_pos (by omega)]
      unfold styI szI roundI
      rw [own_sz (p := ((1 : Nat) : Int)) (sz' := 0) (fun h => by omega)]
      rfl
    simp only [eo]
    have hsty : styI ps k n i = if k i = 7 then ps i else if k i = 8 then initI i else if (ownI i (k i) (n i) (ps 1) (szI ps k n)).2 = true then (ownI i (k i) (n i) (ps 1) (szI ps k n)).1 else if inhI i = true then ps i else initI i := rfl
    generalize ownI i (k i) (n i) (ps 1) (szI ps k n) = ow at hsty ⊢
    simp
    split
    · rename_i h
      rw [hP.nil]
      simp only [bnd_some]
      refine (hP2 _ _).at_ (K := fun x => compute_Of.J2 σ K y0 y3 (.ptr ir 0) (.ptr is 0) (I i) x (.agg (warr k n)) (I i) _) hi8 (next _ _ _ ?_)
      rw [hsty, if_pos h]
    rename_i h7
    split
    · rename_i h
      refine callK_of (init_ok _ _) (next _ _ _ ?_)
      rw [hsty, if_neg h7, if_pos h]
    rename_i h8
    split
    · rename_i h
      refine next _ _ _ ?_
      rw [hsty, if_neg h7, if_neg h8, if_pos h]
    rename_i ho
    refine callK_of (inh_ok _ _) ?_
    simp
    split
    · rename_i h
      rw [hP.nil]
      simp only [bnd_some]
      refine (hP2 _ _).at_ (K := fun x => compute_Of.J2 σ K y0 y3 (.ptr ir 0) (.ptr is 0) (I i) x (.agg (warr k n)) (I i) _) hi8 (next _ _ _ ?_)
      rw [hsty, if_neg h7, if_neg h8, if_neg ho, if_pos h]
    · rename_i h
      refine callK_of (init_ok _ _) (next _ _ _ ?_)
      rw [hsty, if_neg h7, if_neg h8, if_neg ho, if_neg h]
end Go.Proofs.Ytikcninaepoojaa.Ev
