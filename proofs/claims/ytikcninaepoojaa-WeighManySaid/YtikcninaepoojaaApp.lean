/- Slices that grow. -/
import Derived.Test.YtikcninaepoojaaFrz
namespace Go.Proofs.Ytikcninaepoojaa.Ev
set_option linter.unusedVariables false
set_option linter.unusedSimpArgs false

def own (x : AV) (j : Nat) : Prop := match x with
  | .sl id _ _ _ _ => id = j
  | _ => False

/-- A slice that nobody else appends to: these things stand in it. -/
inductive Gs (sz : Nat) (H : Hp) : AV → List (List AV) → Prop where
  | nil : Gs sz H (.lit (.slice none 0 0)) []
  | sl {id : Nat} {ex : Bool} {rows : List (List AV)} (hlt : id < H.n) (hg : H.get id = some (.cells rows.flatten ex)) (hsz : ∀ row ∈ rows, row.length = sz) : Gs sz H (.sl id 0 sz rows.length none) rows

/-- What is told of the blocks behind what changed a slice alone. -/
structure Fr (H : Hp) (x : AV) (H' : Hp) (x' : AV) : Prop where
  same : ∀ j, j < H.n → ¬ own x j → H'.get j = H.get j
  grow : H.n ≤ H'.n
  mine : ∀ j, own x' j → own x j ∨ (H.n ≤ j ∧ j < H'.n)

theorem flatten_len {sz : Nat} : ∀ {rows : List (List AV)}, (∀ row ∈ rows, row.length = sz) → rows.flatten.length = rows.length * sz
  | [], _ => by simp
  | r :: rs, h => by
    have ih := flatten_len (rows := rs) fun x hx => h x (by simp [hx])
    simp only [List.flatten_cons, List.length_append, h r (by simp), List.length_cons, ih]
    rw [Nat.succ_mul]; omega

theorem Gs.len {sz : Nat} {H : Hp} {x : AV} {rows : List (List AV)} (h : Gs sz H x rows) : lenSl x = some (I rows.length) := by
  cases h <;> rfl

theorem Gs.one {sz : Nat} {H : Hp} {x : AV} {rows : List (List AV)} (h : Gs sz H x rows) : AV.one x = true := by
  cases h <;> rfl

theorem Gs.cells {sz : Nat} {H : Hp} {x : AV} {rows : List (List AV)} (h : Gs sz H x rows) : x.cells = [x] ∧ x.isAny = false := by
  cases h <;> exact ⟨rfl, rfl⟩

/-- It stays what it is where nothing writes to its block. -/
theorem Gs.keep {sz : Nat} {H H' : Hp} {x : AV} {rows : List (List AV)} (h : Gs sz H x rows) (hs : ∀ j, own x j → H'.get j = H.get j) (hn : H.n ≤ H'.n) : Gs sz H' x rows := by
  cases h with
  | nil => exact .nil
  | sl hlt hg hsz => exact .sl (by omega) (by rw [hs _ rfl]; exact hg) hsz

theorem app_gs {sz bytes : Nat} {H : Hp} {x y : AV} {rows rows2 : List (List AV)} (hx : Gs sz H x rows) (hns : notStr y = true) (hs : srcA H sz y = some (rows2.length, rows2.flatten)) (h2 : ∀ row ∈ rows2, row.length = sz) (hone : rows2.flatten.all AV.one = true)
    (hb : (rows.length + rows2.length) * bytes ≤ 140737488355328) (hn : rows.length + rows2.length ≤ 4611686018427387904) : ∃ x' H', appR false sz bytes H x y = some (x', H') ∧ Gs sz H' x' (rows ++ rows2) ∧ Fr H x H' x' := by
  unfold appR
  simp only [hns, cond_true, hs, hone, beqN, bleN]
  by_cases h0 : rows2.length = 0
  · have : rows2 = [] := List.length_eq_zero_iff.1 h0
    subst this
    refine ⟨x, H, ?_, by simpa using hx, fun j _ _ => rfl, Nat.le_refl _, fun j hj => .inl hj⟩
    cases hx <;> simp
  · simp only [h0, decide_false, cond_false]
    cases hx with
    | nil =>
      simp only [List.length_nil, Nat.zero_add] at hb hn
      refine ⟨.sl H.n 0 sz rows2.length none, H.new (.cells rows2.flatten false), by simp [hb, hn], ?_, fun j hj _ => ?_, by simp, fun j hj => ?_⟩
      · exact .sl (ex := false) (by simp) (by simp) h2
      · have : j ≠ H.n := by omega
        simp [this]
      · simp only [own] at hj
        right; subst hj; simp
    | sl hlt hg hsz =>
      rename_i id ex
      have hl := flatten_len hsz
      simp only [hg]
      have e : List.take (rows.length * sz) rows.flatten = rows.flatten := by rw [← hl]; exact List.take_length
      refine ⟨.sl H.n 0 sz (rows.length + rows2.length) none, (H.set id none).new (.cells (rows.flatten ++ rows2.flatten) false), by simp [hb, hn, hl, e], ?_, fun j hj hne => ?_, by simp, fun j hj => ?_⟩
      · have e : List.take (rows.length * sz) rows.flatten = rows.flatten := by rw [← hl]; exact List.take_length
        have : rows.length + rows2.length = (rows ++ rows2).length := by simp
        rw [this]
        refine .sl (ex := false) (by simp) (by simp) fun row hrow => ?_
        rcases List.mem_append.1 hrow with h | h
        · exact hsz row h
        · exact h2 row h
      · simp only [own] at hne
        have h1 : j ≠ H.n := by omega
        have h2 : j ≠ id := fun e => hne e.symm
        simp [h1, h2]
      · simp only [own] at hj
        right; subst hj; simp

theorem src_sl1 {H : Hp} {id sz : Nat} {cap : Option Nat} {row : List AV} {ex : Bool} (hg : H.get id = some (.cells row ex)) (hl : row.length = sz) : srcA H sz (.sl id 0 sz 1 cap) = some (([row] : List (List AV)).length, ([row] : List (List AV)).flatten) := by
  subst hl
  simp [srcA, hg, beqN]

theorem src_imm {H : Hp} {sz : Nat} {rows : List (List AV)} : srcA H sz (.imm sz rows) = some (rows.length, rows.flatten) := by
  simp [srcA, beqN]

/-- `x = append(x, y)`, of one thing. -/
theorem bnd_app {sz bytes : Nat} {H : Hp} {x y : AV} {rows rows2 : List (List AV)} (hx : Gs sz H x rows) (hns : notStr y = true) (hs : srcA H sz y = some (rows2.length, rows2.flatten)) (h2 : ∀ row ∈ rows2, row.length = sz) (hone : rows2.flatten.all AV.one = true)
    (hb : (rows.length + rows2.length) * bytes ≤ 140737488355328) (hn : rows.length + rows2.length ≤ 4611686018427387904) {K : AV × Hp → Prop} (h : ∀ x' H', Gs sz H' x' (rows ++ rows2) → Fr H x H' x' → K (x', H')) : bnd (appR false sz bytes H x y) K := by
  obtain ⟨x', H', e, hg, hf⟩ := app_gs hx hns hs h2 hone hb hn
  rw [e]
  exact h x' H' hg hf

/-- What grew, of things that name no block, is read as it stands. -/
theorem Gs.fz {sz : Nat} {H : Hp} {x : AV} {rows : List (List AV)} (h : Gs sz H x rows) (hn : noIdss rows = true) : Fz H x (.imm sz rows) := by
  cases h with
  | nil => exact .nil
  | sl hlt hg hsz => exact .rows hg hsz (by rw [List.drop_zero, ← flatten_len hsz]; exact List.take_length) hn
end Go.Proofs.Ytikcninaepoojaa.Ev
namespace Go.Proofs.Ytikcninaepoojaa.Ev
set_option linter.unusedVariables false
set_option linter.unusedSimpArgs false
theorem Gs.lt {sz : Nat} {H : Hp} {x : AV} {rows : List (List AV)} (h : Gs sz H x rows) {j : Nat} (hj : own x j) : j < H.n := by
  cases h with
  | nil => exact hj.elim
  | sl hlt _ _ => simp only [own] at hj; omega
theorem wr_nat {k : Nat} (h : k < 9000000000000000000) : wr .i64 (k : Int) = (k : Int) := wr64 (by omega) (by omega)
theorem zrow_len (z : List Value) (n : Nat) : (zrow z n).length = n := by simp [zrow]
theorem bld_one {z : List Value} {sz : Nat} {H : Hp} {x : AV} (hl : x.cells.length = sz) (ha : x.isAny = false) : bldSlR z sz 1 H [(0, sz, x)] = some (.sl H.n 0 sz 1 (some 1), H.new (.cells x.cells true)) := by
  unfold bldSlR
  simp only [bldR, hl, beqN, bleN, decide_true, Nat.one_mul, zrow_len, Nat.zero_add, Nat.le_refl, ha, Bool.not_false, Bool.and_self, cond_true]
  rw [overlay_all (by rw [zrow_len]; exact hl)]
  simp [hl]
/-- `x = append(x, y)`, y one thing that is built for it. -/
theorem bnd_app1 {z : List Value} {sz bytes : Nat} {H : Hp} {x y : AV} {rows : List (List AV)} (hx : Gs sz H x rows) (hl : y.cells.length = sz) (ha : y.isAny = false) (hone : y.cells.all AV.one = true)
    (hb : (rows.length + 1) * bytes ≤ 140737488355328) (hn : rows.length + 1 ≤ 4611686018427387904) {K : AV × Hp → Prop} (h : ∀ x' H', Gs sz H' x' (rows ++ [y.cells]) → Fr H x H' x' → K (x', H')) :
    bnd (bldSlR z sz 1 H [(0, sz, y)]) fun p => bnd (appR false sz bytes p.2 x p.1) K := by
  rw [bld_one hl ha, bnd_some]
  have hk : Gs sz (H.new (.cells y.cells true)) x rows := by
    refine hx.keep (fun j hj => ?_) (by simp)
    have : j ≠ H.n := by
      cases hx with
      | nil => exact hj.elim
      | sl hlt _ _ => simp only [own] at hj; omega
    simp [this]
  refine bnd_app hk rfl (src_sl1 (row := y.cells) (ex := true) (by simp) hl) (fun row hrow => by simp at hrow; rw [hrow]; exact hl) (by simpa using hone) (by simpa using hb) (by simpa using hn) fun x' H' g f => h x' H' g ⟨fun j hj hne => ?_, ?_, fun j hj => ?_⟩
  · rw [f.same j (by simp; omega) hne]
    have : j ≠ H.n := by omega
    simp [this]
  · have := f.grow; simp at this; omega
  · rcases f.mine j hj with h | ⟨h1, h2⟩
    · exact .inl h
    · right; simp at h1; omega
end Go.Proofs.Ytikcninaepoojaa.Ev
namespace Go.Proofs.Ytikcninaepoojaa.Ev
/-- Rows one behind the other, cell by cell. -/
theorem rows_flat {sz : Nat} : ∀ {rows : List (List AV)}, (∀ row ∈ rows, row.length = sz) → ∀ (i : Nat) (row : List AV) (j : Nat) (y : AV), rows[i]? = some row → row[j]? = some y → rows.flatten[i * sz + j]? = some y
  | [], _, i, row, j, y, h1, _ => by simp at h1
  | r :: rs, hsz, i, row, j, y, h1, h2 => by
    have hr := hsz r (by simp)
    cases i with
    | zero =>
      simp at h1; subst h1
      have hj := (List.getElem?_eq_some_iff.1 h2).1
      simp only [Nat.zero_mul, Nat.zero_add, List.flatten_cons]
      rw [List.getElem?_append_left hj]; exact h2
    | succ i =>
      simp only [List.flatten_cons]
      rw [List.getElem?_append_right (by rw [hr, Nat.succ_mul]; omega), hr, show (i + 1) * sz + j - sz = i * sz + j by rw [Nat.succ_mul]; omega]
      exact rows_flat (fun r hr => hsz r (by simp [hr])) i row j y (by simpa using h1) h2
/-- One cell is written. -/
theorem st_one {H : Hp} {id off : Nat} {cs : List AV} {ex : Bool} {x : AV} (hg : H.get id = some (.cells cs ex)) (hc : x.cells = [x]) (ha : x.isAny = false) (ho : AV.one x = true) (hl : off < cs.length) : stA 1 H (.ptr id off) x = some (H.set id (some (.cells (cs.set off x) ex))) := by
  rw [st_ptr 1 H id off x (by rw [hc]; rfl) ha, hg, hc]
  have : off + [x].length ≤ cs.length := by simp; omega
  simp only [stO_cells, this, List.all_cons, List.all_nil, ho, Bool.and_self, and_self, if_true, ovl_set hl]
theorem Gs.st {sz : Nat} {H0 H : Hp} {x : AV} {rows : List (List AV)} (h : Gs sz H0 x rows) {id off : Nat} {cs : List AV} {ex : Bool} (hg : H.get id = some (.cells cs ex)) (hl : off < cs.length) : stA 1 H (.ptr id off) x = some (H.set id (some (.cells (cs.set off x) ex))) :=
  st_one hg h.cells.1 h.cells.2 h.one hl
end Go.Proofs.Ytikcninaepoojaa.Ev
