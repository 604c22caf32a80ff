/- How the predicates of TkWp are worked out, where values and heap are told. -/
import Derived.Test.YtikcninaepoojaaWr
namespace Go.Proofs.Ytikcninaepoojaa.Ev
set_option linter.unusedVariables false
set_option linter.unusedSimpArgs false

abbrev I (n : Int) : AV := .lit (.int .i64 n)
abbrev Bo (b : Bool) : AV := .lit (.bool b)
abbrev Sx (s : ByteArray) : AV := .lit (.string s)

attribute [simp] bnd_some bnd_none

@[simp] theorem ifB_lit (b : Bool) (A B : Prop) : ifB (.lit (.bool b)) A B = if b = true then A else B := by cases b <;> rfl

@[simp] theorem beqS_dec (a b : ByteArray) : beqS a b = decide (a = b) := by
  by_cases h : a = b
  · subst h; simp [beqS]
  · simp only [h, decide_false]
    cases hh : beqS a b with
    | false => rfl
    | true => exact absurd (beqS_eq hh) h

/-! ### numbers -/
theorem wr64 {n : Int} (h0 : -9223372036854775808 ≤ n) (h1 : n ≤ 9223372036854775807) : wr .i64 n = n := wr_in h0 h1

section
variable (a b : Int) (k : IntKind)
@[simp] theorem b_add : binR .add (.lit (.int k a)) (.lit (.int k b)) = some (.lit (.int k (wr k (a + b)))) := by simp [binR, lit?, sbin]
@[simp] theorem b_sub : binR .sub (.lit (.int k a)) (.lit (.int k b)) = some (.lit (.int k (wr k (a - b)))) := by simp [binR, lit?, sbin]
@[simp] theorem b_mul : binR .mul (.lit (.int k a)) (.lit (.int k b)) = some (.lit (.int k (wr k (a * b)))) := by simp [binR, lit?, sbin]
@[simp] theorem b_lss : binR .lss (.lit (.int k a)) (.lit (.int k b)) = some (.lit (.bool (decide (a < b)))) := by simp [binR, lit?, sbin]
@[simp] theorem b_leq : binR .leq (.lit (.int k a)) (.lit (.int k b)) = some (.lit (.bool (decide (a ≤ b)))) := by simp [binR, lit?, sbin]
@[simp] theorem b_gtr : binR .gtr (.lit (.int k a)) (.lit (.int k b)) = some (.lit (.bool (decide (b < a)))) := by simp [binR, lit?, sbin]
@[simp] theorem b_geq : binR .geq (.lit (.int k a)) (.lit (.int k b)) = some (.lit (.bool (decide (b ≤ a)))) := by simp [binR, lit?, sbin]
@[simp] theorem b_eql : binR .eql (.lit (.int k a)) (.lit (.int k b)) = some (.lit (.bool (decide (a = b)))) := by simp [binR, lit?, sbin]
@[simp] theorem b_neq : binR .neq (.lit (.int k a)) (.lit (.int k b)) = some (.lit (.bool (!decide (a = b)))) := by simp [binR, lit?, sbin]
theorem b_quo (h : b ≠ 0) : binR .quo (.lit (.int k a)) (.lit (.int k b)) = some (.lit (.int k (wr k (a.tdiv b)))) := by simp [binR, lit?, sbin, h]
theorem b_rem (h : b ≠ 0) : binR .rem (.lit (.int k a)) (.lit (.int k b)) = some (.lit (.int k (a.tmod b))) := by simp [binR, lit?, sbin, h]
theorem b_shl (h : 0 ≤ b) : binR .shl (.lit (.int k a)) (.lit (.int k b)) = some (.lit (.int k (wr k (a * 2 ^ (min b.toNat k.bits))))) := by simp [binR, lit?, sbin, Int.not_lt.2 h]
theorem b_shr (h : 0 ≤ b) : binR .shr (.lit (.int k a)) (.lit (.int k b)) = some (.lit (.int k (a.fdiv (2 ^ (min b.toNat k.bits))))) := by simp [binR, lit?, sbin, Int.not_lt.2 h]
theorem b_and : binR .and (.lit (.int k a)) (.lit (.int k b)) = some (.lit (.int k (wr k (BitVec.ofInt k.bits a &&& BitVec.ofInt k.bits b).toNat))) := by simp [binR, lit?, sbin]
end
@[simp] theorem b_seql (a b : ByteArray) : binR .eql (.lit (.string a)) (.lit (.string b)) = some (.lit (.bool (decide (a = b)))) := by simp [binR, lit?, sbin]
@[simp] theorem b_sneq (a b : ByteArray) : binR .neq (.lit (.string a)) (.lit (.string b)) = some (.lit (.bool (!decide (a = b)))) := by simp [binR, lit?, sbin]
@[simp] theorem u_not (b : Bool) : unR .not (.lit (.bool b)) = some (.lit (.bool (!b))) := rfl
@[simp] theorem u_neg (k : IntKind) (n : Int) : unR .neg (.lit (.int k n)) = some (.lit (.int k (wr k (0 - n)))) := rfl
@[simp] theorem e_bool (a b : Bool) : eqBoolR .eql (.lit (.bool a)) (.lit (.bool b)) = some (.lit (.bool (a == b))) := rfl
@[simp] theorem e_boolN (a b : Bool) : eqBoolR .neq (.lit (.bool a)) (.lit (.bool b)) = some (.lit (.bool (!(a == b)))) := rfl
@[simp] theorem e_pn1 (id o : Nat) : eqPtrR .eql (.ptr id o) (.lit (.pointer none)) = some (.lit (.bool false)) := rfl
@[simp] theorem e_pn2 (cs : List AV) : eqPtrR .eql (.ip cs) (.lit (.pointer none)) = some (.lit (.bool false)) := rfl
@[simp] theorem e_pn3 : eqPtrR .eql (.lit (.pointer none)) (.lit (.pointer none)) = some (.lit (.bool true)) := rfl
@[simp] theorem e_pn4 (id o : Nat) : eqPtrR .neq (.ptr id o) (.lit (.pointer none)) = some (.lit (.bool true)) := rfl
@[simp] theorem e_pn5 (cs : List AV) : eqPtrR .neq (.ip cs) (.lit (.pointer none)) = some (.lit (.bool true)) := rfl
@[simp] theorem e_pn6 : eqPtrR .neq (.lit (.pointer none)) (.lit (.pointer none)) = some (.lit (.bool false)) := rfl
@[simp] theorem p_lit (t : Bool) (a b : AV) : pickR (.lit (.bool t)) a b = some (bif t then a else b) := rfl
@[simp] theorem n_ptr (id o : Nat) : nilR (.ptr id o) = some (.ptr id o) := rfl
@[simp] theorem n_ip (cs : List AV) : nilR (.ip cs) = some (.ip cs) := rfl
@[simp] theorem n_fn (f : Nat) (cs : List AV) : nilR (.fn f cs) = some (.fn f cs) := rfl
@[simp] theorem x_tup (vs : List AV) (i : Nat) : exR (.tup vs) i = vs[i]? := rfl
@[simp] theorem c_int (k j : IntKind) (n : Int) : cvInt k (.lit (.int j n)) = some (.lit (.int k (wr k n))) := rfl
@[simp] theorem c_str (s : ByteArray) : cvStr (.lit (.string s)) = some (.lit (.string s)) := rfl

/-! ### memory -/
@[simp] theorem allocK_eq (z : List AV) (H : Hp) (K : AV → Hp → Prop) : allocK z H K = K (.ptr H.n 0) (H.new (.cells z true)) := rfl
@[simp] theorem boxK_agg (cs : List AV) (H : Hp) (K : AV → Hp → Prop) : boxK (.agg cs) H K = K (.ptr H.n 0) (H.new (.cells cs true)) := rfl
theorem boxK_one {x : AV} (h : x.isAny = false) (hc : x.cells = [x]) (H : Hp) (K : AV → Hp → Prop) : boxK x H K = K (.ptr H.n 0) (H.new (.cells [x] true)) := by simp [boxK, h, hc]

def ldL (agg : Bool) (n : Nat) (l : List AV) : Option AV := if (l.take n).length = n then pack agg (l.take n) else none
def ldO (agg : Bool) (n off : Nat) : Option Blk → Option AV
  | some (.cells cs _) => ldL agg n (cs.drop off)
  | _ => none
@[simp] theorem ldO_cells (agg : Bool) (n off : Nat) (cs : List AV) (ex : Bool) : ldO agg n off (some (.cells cs ex)) = ldL agg n (cs.drop off) := rfl
theorem beqN (a b : Nat) : Nat.beq a b = decide (a = b) := by
  by_cases h : a = b
  · subst h; simp
  · simp only [h, decide_false]; exact beq_ne h
theorem bleN (a b : Nat) : Nat.ble a b = decide (a ≤ b) := by
  by_cases h : a ≤ b
  · simp only [h, decide_true]; exact Nat.ble_eq_true_of_le h
  · simp only [h, decide_false]
    cases hh : Nat.ble a b with
    | false => rfl
    | true => exact absurd (Nat.le_of_ble_eq_true hh) h
@[simp] theorem ld_ptr (agg : Bool) (n : Nat) (H : Hp) (id off : Nat) : ldA agg n H (.ptr id off) = ldO agg n off (H.get id) := by
  cases hg : H.get id with
  | none => simp only [ldA, cellsAt, hg, ldO]
  | some k => cases k with
    | cells cs ex =>
      simp only [ldA, cellsAt, hg, ldO, ldL, beqN]
      by_cases h : (List.take n (List.drop off cs)).length = n
      · simp only [h, decide_true, cond_true, if_true]
      · simp only [h, decide_false, cond_false, if_false]
    | map => simp only [ldA, cellsAt, hg, ldO]
    | loop => simp only [ldA, cellsAt, hg, ldO]
@[simp] theorem ld_ip (agg : Bool) (n : Nat) (H : Hp) (cs : List AV) : ldA agg n H (.ip cs) = ldL agg n cs := by
  simp only [ldA, cellsAt, ldL, beqN]
  by_cases h : (List.take n cs).length = n
  · simp only [h, decide_true, cond_true, if_true]
  · simp only [h, decide_false, cond_false, if_false]
@[simp] theorem ldL_one (x : AV) (l : List AV) : ldL false 1 (x :: l) = some x := by simp [ldL, pack]
theorem ldL_agg {n : Nat} {l : List AV} (h : n ≤ l.length) : ldL true n l = some (.agg (l.take n)) := by simp [ldL, pack, h]
theorem ldL_all {n : Nat} {l : List AV} (h : l.length = n) : ldL true n l = some (.agg l) := by
  subst h; simp [ldL, pack]
@[simp] theorem hp_get_new (H : Hp) (b : Blk) (j : Nat) : (H.new b).get j = if j = H.n then some b else H.get j := Hp.get_new H b j
@[simp] theorem hp_get_set (H : Hp) (id : Nat) (b : Option Blk) (j : Nat) : (H.set id b).get j = if j = id then b else H.get j := Hp.get_set H id b j

def stO (n off : Nat) (xs : List AV) (H : Hp) (id : Nat) : Option Blk → Option Hp
  | some (.cells cs ex) => if off + xs.length ≤ cs.length ∧ xs.all AV.one = true then some (H.set id (some (.cells (overlay cs off xs) ex))) else none
  | _ => none
@[simp] theorem stO_cells (n off : Nat) (xs : List AV) (H : Hp) (id : Nat) (cs : List AV) (ex : Bool) : stO n off xs H id (some (.cells cs ex)) = if off + xs.length ≤ cs.length ∧ xs.all AV.one = true then some (H.set id (some (.cells (overlay cs off xs) ex))) else none := rfl
theorem st_ptr (n : Nat) (H : Hp) (id off : Nat) (x : AV) (h : x.cells.length = n) (ha : x.isAny = false) : stA n H (.ptr id off) x = stO n off x.cells H id (H.get id) := by
  cases hg : H.get id with
  | none => simp only [stA, storeCellsA, hg, stO]; cases (Nat.beq x.cells.length n && !x.isAny) <;> rfl
  | some k => cases k with
    | cells cs ex =>
      simp only [stA, storeCellsA, hg, stO, beqN, bleN, h, decide_true, ha, Bool.not_false, Bool.and_self, cond_true]
      by_cases h1 : off + n ≤ cs.length <;> cases h2 : x.cells.all AV.one <;> simp [h1, h2]
    | map => simp only [stA, storeCellsA, hg, stO]; cases (Nat.beq x.cells.length n && !x.isAny) <;> rfl
    | loop => simp only [stA, storeCellsA, hg, stO]; cases (Nat.beq x.cells.length n && !x.isAny) <;> rfl
@[simp] theorem st_agg (n : Nat) (H : Hp) (id off : Nat) (cs : List AV) : stA n H (.ptr id off) (.agg cs) = if cs.length = n then stO n off cs H id (H.get id) else none := by
  split
  · rename_i h; exact st_ptr n H id off (.agg cs) h rfl
  · rename_i h; simp [stA, AV.cells, beqN, h]
@[simp] theorem st_int (H : Hp) (id off : Nat) (k : IntKind) (n : Int) : stA 1 H (.ptr id off) (.lit (.int k n)) = stO 1 off [.lit (.int k n)] H id (H.get id) := st_ptr 1 H id off _ rfl rfl
@[simp] theorem st_bool (H : Hp) (id off : Nat) (b : Bool) : stA 1 H (.ptr id off) (.lit (.bool b)) = stO 1 off [.lit (.bool b)] H id (H.get id) := st_ptr 1 H id off _ rfl rfl
@[simp] theorem st_str (H : Hp) (id off : Nat) (b : ByteArray) : stA 1 H (.ptr id off) (.lit (.string b)) = stO 1 off [.lit (.string b)] H id (H.get id) := st_ptr 1 H id off _ rfl rfl
@[simp] theorem st_imm (H : Hp) (id off s : Nat) (xs : List (List AV)) : stA 1 H (.ptr id off) (.imm s xs) = stO 1 off [.imm s xs] H id (H.get id) := st_ptr 1 H id off _ rfl rfl
@[simp] theorem st_sl (H : Hp) (id off a b c d : Nat) (e : Option Nat) : stA 1 H (.ptr id off) (.sl a b c d e) = stO 1 off [.sl a b c d e] H id (H.get id) := st_ptr 1 H id off _ rfl rfl
@[simp] theorem st_pp (H : Hp) (id off a b : Nat) : stA 1 H (.ptr id off) (.ptr a b) = stO 1 off [.ptr a b] H id (H.get id) := st_ptr 1 H id off _ rfl rfl
@[simp] theorem st_pn (H : Hp) (id off : Nat) : stA 1 H (.ptr id off) (.lit (.pointer none)) = stO 1 off [.lit (.pointer none)] H id (H.get id) := st_ptr 1 H id off _ rfl rfl
@[simp] theorem st_nil (H : Hp) (id off a b : Nat) : stA 1 H (.ptr id off) (.lit (.slice none a b)) = stO 1 off [.lit (.slice none a b)] H id (H.get id) := st_ptr 1 H id off _ rfl rfl

@[simp] theorem one_int (k : IntKind) (n : Int) : AV.one (.lit (.int k n)) = true := rfl
@[simp] theorem one_bool (b : Bool) : AV.one (.lit (.bool b)) = true := rfl
@[simp] theorem one_str (s : ByteArray) : AV.one (.lit (.string s)) = true := rfl
@[simp] theorem one_imm (s : Nat) (xs : List (List AV)) : AV.one (.imm s xs) = true := rfl
@[simp] theorem one_ip (xs : List AV) : AV.one (.ip xs) = true := rfl
@[simp] theorem one_ptr (a b : Nat) : AV.one (.ptr a b) = true := rfl
@[simp] theorem one_sl (a b c d : Nat) (e : Option Nat) : AV.one (.sl a b c d e) = true := rfl
@[simp] theorem one_fn (f : Nat) (cs : List AV) : AV.one (.fn f cs) = true := rfl
@[simp] theorem one_emp : AV.one .emp = true := rfl
@[simp] theorem one_nil (a b : Nat) : AV.one (.lit (.slice none a b)) = true := rfl
@[simp] theorem one_pn : AV.one (.lit (.pointer none)) = true := rfl
@[simp] theorem one_nf : AV.one (.lit .nilFunc) = true := rfl
@[simp] theorem cells_agg (cs : List AV) : AV.cells (.agg cs) = cs := rfl
@[simp] theorem cells_int (k : IntKind) (n : Int) : AV.cells (.lit (.int k n)) = [.lit (.int k n)] := rfl
@[simp] theorem cells_bool (b : Bool) : AV.cells (.lit (.bool b)) = [.lit (.bool b)] := rfl
@[simp] theorem cells_str (s : ByteArray) : AV.cells (.lit (.string s)) = [.lit (.string s)] := rfl
@[simp] theorem cells_imm (s : Nat) (xs : List (List AV)) : AV.cells (.imm s xs) = [.imm s xs] := rfl
@[simp] theorem cells_sl (a b c d : Nat) (e : Option Nat) : AV.cells (.sl a b c d e) = [.sl a b c d e] := rfl
@[simp] theorem cells_ptr (a b : Nat) : AV.cells (.ptr a b) = [.ptr a b] := rfl
@[simp] theorem cells_nil (a b : Nat) : AV.cells (.lit (.slice none a b)) = [.lit (.slice none a b)] := rfl
@[simp] theorem isAny_agg (cs : List AV) : AV.isAny (.agg cs) = false := rfl
@[simp] theorem isAny_lit (v : Value) : AV.isAny (.lit v) = false := rfl
@[simp] theorem isAny_imm (s : Nat) (xs : List (List AV)) : AV.isAny (.imm s xs) = false := rfl
@[simp] theorem isAny_sl (a b c d : Nat) (e : Option Nat) : AV.isAny (.sl a b c d e) = false := rfl
@[simp] theorem isAny_ptr (a b : Nat) : AV.isAny (.ptr a b) = false := rfl

theorem overlay_all {cs xs : List AV} (h : xs.length = cs.length) : overlay cs 0 xs = xs := by simp [overlay, h]
@[simp] theorem overlay_0 (c : AV) (cs : List AV) (x : AV) : overlay (c :: cs) 0 [x] = x :: cs := by simp [overlay]
@[simp] theorem overlay_s (c : AV) (cs : List AV) (n : Nat) (x : AV) : overlay (c :: cs) (n + 1) [x] = c :: overlay cs n [x] := by simp [overlay, Nat.add_right_comm]

@[simp] theorem sh_ptr (id o k : Nat) : shiftA (.ptr id o) k = some (.ptr id (o + k)) := rfl
@[simp] theorem sh_ip (cs : List AV) (k : Nat) : shiftA (.ip cs) k = some (.ip (cs.drop k)) := rfl
@[simp] theorem pt_agg (off sz : Nat) (cs : List AV) : partR true off sz (.agg cs) = some (.agg ((cs.drop off).take sz)) := rfl
@[simp] theorem pt_one (off sz : Nat) (cs : List AV) : partR false off sz (.agg cs) = cs[off]? := rfl

/-! ### slices, strings -/
@[simp] theorem len_imm (s : Nat) (xs : List (List AV)) : lenSl (.imm s xs) = some (.lit (.int .i64 xs.length)) := rfl
@[simp] theorem len_sl (a b c d : Nat) (e : Option Nat) : lenSl (.sl a b c d e) = some (.lit (.int .i64 d)) := rfl
@[simp] theorem len_emp : lenSl .emp = some (.lit (.int .i64 0)) := rfl
@[simp] theorem len_nil (a b : Nat) : lenSl (.lit (.slice none a b)) = some (.lit (.int .i64 a)) := rfl
@[simp] theorem len_str (s : ByteArray) : lenStr (.lit (.string s)) = some (.lit (.int .i64 s.data.size)) := rfl
theorem ix_imm (sz k : Nat) (xs : List (List AV)) : ixaSl sz (.imm sz xs) (.lit (.int .i64 (k : Int))) = (xs[k]?).map .ip := by simp [ixaSl, intA]
theorem ix_imm0 (sz : Nat) (xs : List (List AV)) : ixaSl sz (.imm sz xs) (.lit (.int .i64 0)) = (xs[0]?).map .ip := by simp [ixaSl, intA]
theorem ix_immI {sz : Nat} {xs : List (List AV)} {n : Int} (h : 0 ≤ n) : ixaSl sz (.imm sz xs) (.lit (.int .i64 n)) = (xs[n.toNat]?).map .ip := by simp [ixaSl, intA, h]
theorem ix_sl {sz id off s len : Nat} {cap : Option Nat} {n : Int} (h0 : 0 ≤ n) (h1 : n < len) : ixaSl sz (.sl id off s len cap) (.lit (.int .i64 n)) = some (.ptr id (off + n.toNat * sz)) := by simp [ixaSl, intA, h0, h1]
def caO (n off : Nat) : Option Blk → Option (List AV)
  | some (.cells cs _) => bif Nat.beq ((cs.drop off).take n).length n then some ((cs.drop off).take n) else none
  | _ => none
theorem ca_ptr (n : Nat) (H : Hp) (id off : Nat) : cellsAt H (.ptr id off) n = caO n off (H.get id) := by
  cases hg : H.get id with
  | none => simp only [cellsAt, hg, caO]
  | some k => cases k <;> simp only [cellsAt, hg, caO]
@[simp] theorem ca_one (off : Nat) (cs : List AV) (ex : Bool) : caO 1 off (some (.cells cs ex)) = (ldL false 1 (cs.drop off)).map fun x => [x] := by
  unfold caO ldL
  simp only
  generalize cs.drop off = l
  cases l with
  | nil => rfl
  | cons c r => simp [pack]
@[simp] theorem kp_ip (cs : List AV) (n : Option Nat) (H H1 : Hp) (A : Prop) : kpK (.ip cs, n) H H1 A = A := rfl
@[simp] theorem kp_ptr (id o n : Nat) (H H1 : Hp) (A : Prop) : kpK (.ptr id o, some n) H H1 A = (caO n o (H1.get id) = caO n o (H.get id) ∧ A) := by rw [← ca_ptr, ← ca_ptr]; rfl
@[simp] theorem kp_ptrN (id o : Nat) (H H1 : Hp) (A : Prop) : kpK (.ptr id o, none) H H1 A = (H1.get id = H.get id ∧ A) := rfl

/-! ### calls -/
theorem callK_of {P : Program} {σ : Sig} {g : Nat} {xs : List AV} {H H1 : Hp} {r : AV} {K : AV → Hp → Prop} (h : Good P σ g xs H r H1) (hk : K r H1) : callK P σ g xs H K := ⟨r, H1, h, hk⟩
theorem good_eq {P : Program} {σ : Sig} {f : Nat} {xs : List AV} {H H' : Hp} {r : AV} (h : ∃ r' H1, Good P σ f xs H r' H1 ∧ (r' = r ∧ H1 = H')) : Good P σ f xs H r H' := by
  obtain ⟨_, _, hg, rfl, rfl⟩ := h
  exact hg
/-- Over no heap, with a plain result: over each heap. -/
theorem good_pure {P : Program} {σ : Sig} {f : Nat} {xs : List AV} {r : AV} (h : ∃ r' H1, Good P σ f xs Hp.empty r' H1 ∧ r' = r) (hx : noIds xs = true) (hr : plainV r = true) (H : Hp) : Good P σ f xs H r H := by
  obtain ⟨_, _, hg, rfl⟩ := h
  exact hg.over hx hr H
end Go.Proofs.Ytikcninaepoojaa.Ev
namespace Go.Proofs.Ytikcninaepoojaa.Ev
theorem ix_map {α : Type} {f : α → List AV} {l : List α} {sz k : Nat} {x : α} (h : l[k]? = some x) : ixaSl sz (.imm sz (l.map f)) (.lit (.int .i64 (k : Int))) = some (.ip (f x)) := by
  rw [ix_imm, List.getElem?_map, h]; rfl
theorem wr_succ {k : Nat} (h : k < 9000000000000000000) : wr .i64 ((k : Int) + 1) = ((k + 1 : Nat) : Int) := by rw [wr64 (by omega) (by omega)]; rfl
end Go.Proofs.Ytikcninaepoojaa.Ev
namespace Go.Proofs.Ytikcninaepoojaa.Ev
/-- The same, what is to be met kept dark. -/
theorem good_by {P : Program} {σ : Sig} {f : Nat} {xs : List AV} {r : AV} (h : ∀ K : AV → Hp → Prop, (∀ H, K r H) → ∃ r' H1, Good P σ f xs Hp.empty r' H1 ∧ K r' H1) (hx : noIds xs = true) (hr : plainV r = true) (H : Hp) : Good P σ f xs H r H :=
  good_pure (h (fun r' _ => r' = r) fun _ => rfl) hx hr H
/-- A contract that tells the result by a predicate. -/
theorem good_to {P : Program} {σ : Sig} {f : Nat} {xs : List AV} {r : AV} {H H' : Hp} (h : ∀ K : AV → Hp → Prop, K r H' → ∃ r' H1, Good P σ f xs H r' H1 ∧ K r' H1) : Good P σ f xs H r H' := by
  obtain ⟨r', H1, hg, rfl, rfl⟩ := h (fun r' H1 => r' = r ∧ H1 = H') ⟨rfl, rfl⟩
  exact hg
end Go.Proofs.Ytikcninaepoojaa.Ev
namespace Go.Proofs.Ytikcninaepoojaa.Ev
/-! ### rows of things in memory; loops over functions -/
theorem ovl_set {cs : List AV} {k : Nat} {x : AV} (h : k < cs.length) : overlay cs k [x] = cs.set k x := by
  induction cs generalizing k with
  | nil => simp at h
  | cons c cs ih =>
    cases k with
    | zero => simp
    | succ k => simp; exact ih (by simpa using h)
theorem ldL_map {α : Type} {f : α → AV} {l : List α} {k : Nat} (h : k < l.length) : ldL false 1 ((l.map f).drop k) = some (f l[k]) := by
  rw [List.drop_eq_getElem_cons (by simpa using h), ldL_one, List.getElem_map]
theorem ov_map {α : Type} {f : α → AV} {l : List α} {k : Nat} (v : α) (h : k < l.length) : overlay (l.map f) k [f v] = (l.set k v).map f := by
  rw [ovl_set (by simpa using h), List.map_set]
theorem ixArrN {n sz k : Nat} (h : k < n) (x : AV) : ixaArr n sz x (.lit (.int .i64 (k : Int))) = shiftA x (k * sz) := by
  unfold ixaArr
  have h1 : (0 : Int) ≤ k := by omega
  have h2 : (k : Int) < n := by omega
  simp [intA, h2]
@[simp] theorem callV_fn' (P : Program) (σ : Sig) (g : Nat) (cs xs : List AV) (H : Hp) (K : AV → Hp → Prop) : callV P σ (.fn g cs) xs H K = callK P σ g (xs ++ cs) H K := rfl
@[simp] theorem rangeK_fn (P : Program) (σ : Sig) (g : Nat) (cs : List AV) (rec : LRec) (H : Hp) (N R : Hp → Prop) (X : Nat → Hp → Prop) : rangeK P σ (.fn g cs) rec H N R X = callK P σ g (.yl H.n :: cs) (H.new (.loop rec .ready none)) fun _ H2 => endK (H2.get H.n) (H2.set H.n none) N R X := rfl
@[simp] theorem endK_ready (rec : LRec) (H : Hp) (N R : Hp → Prop) (X : Nat → Hp → Prop) : endK (some (.loop rec .ready none)) H N R X = N H := rfl
@[simp] theorem endK_ret (rec : LRec) (H : Hp) (N R : Hp → Prop) (X : Nat → Hp → Prop) : endK (some (.loop rec .done (some .ret))) H N R X = R H := rfl
@[simp] theorem endK_exit (rec : LRec) (i : Nat) (H : Hp) (N R : Hp → Prop) (X : Nat → Hp → Prop) : endK (some (.loop rec .done (some (.exit i)))) H N R X = X i H := rfl
@[simp] theorem exB_t (A B : Prop) : exB true A B = A := rfl
@[simp] theorem exB_f (A B : Prop) : exB false A B = B := rfl
theorem roundE_normal (id : Nat) (rec : LRec) (K : AV → Hp → Prop) (H : Hp) : roundE id rec K .normal H = (H.get id = some (.loop rec .busy none) ∧ K (.lit (.bool true)) (H.set id (some (.loop rec .ready none)))) := rfl
theorem roundE_ret (id : Nat) (rec : LRec) (K : AV → Hp → Prop) (H : Hp) : roundE id rec K .ret H = (H.get id = some (.loop rec .busy none) ∧ K (.lit (.bool false)) (H.set id (some (.loop rec .done (some .ret))))) := rfl
theorem roundE_exit (id : Nat) (rec : LRec) (K : AV → Hp → Prop) (i : Nat) (H : Hp) : roundE id rec K (.exit i) H = (H.get id = some (.loop rec .busy none) ∧ K (.lit (.bool false)) (H.set id (some (.loop rec .done (some (.exit i)))))) := rfl
@[simp] theorem len_se (a b c : Nat) : lenSl (.se a b c) = some (.lit (.int .i64 0)) := rfl
end Go.Proofs.Ytikcninaepoojaa.Ev
