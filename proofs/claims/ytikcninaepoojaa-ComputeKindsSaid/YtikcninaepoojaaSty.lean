/- Styles that are handed in; the laws of chapter 16 that hang on few numbers. -/
import Derived.Test.YtikcninaepoojaaEms
namespace Go.Proofs.Ytikcninaepoojaa.Ev
open Go.RowKit
set_option linter.unusedVariables false
set_option maxRecDepth 100000
set_option maxHeartbeats 4000000

theorem ti3_at : tiT.get 3 = some ti3 := by kernel_rfl
theorem ti4_at : tiT.get 4 = some ti4 := by kernel_rfl
theorem ti73_at : tiT.get 73 = some ti73 := by kernel_rfl
theorem ti75_at : tiT.get 75 = some ti75 := by kernel_rfl
theorem ti76_at : tiT.get 76 = some ti76 := by kernel_rfl
theorem closed16 : closedB tiT.get [3, 4, 73, 75, 76] = true := by kernel_rfl
def zeroσ : Sig := ⟨fun _ => 0, fun _ => false, fun _ => ⟨#[]⟩⟩

/-- Whole numbers one behind the other. -/
inductive Ints : List AV → Prop where
  | nil : Ints []
  | cons {n : Int} {xs : List AV} (h : Ints xs) : Ints (.lit (.int .i64 n) :: xs)

theorem ints_of : ∀ (m : Nat) {ys : List AV}, Sh tiT.get (List.replicate m 3) ys → Ints ys ∧ ys.length = m
  | 0, ys, h => by
    have := sh_nil h
    subst this
    exact ⟨.nil, rfl⟩
  | m + 1, ys, h => by
    rw [List.replicate_succ] at h
    obtain ⟨n, zs, rfl, hw, hs⟩ := sh_int ti3_at rfl h
    obtain ⟨h1, h2⟩ := ints_of m hs
    exact ⟨.cons h1, by simp [h2]⟩

def letters : Nat → Nat → List AV
  | _, 0 => []
  | i, m + 1 => .sy .i64 (.var i) :: letters (i + 1) m

/-- The numbers of cells. -/
def nums : List AV → List Int
  | [] => []
  | .lit (.int _ n) :: r => n :: nums r
  | _ :: r => 0 :: nums r

theorem ltL_letters {σ : Sig} : ∀ {ys : List AV} (i : Nat), Ints ys → (∀ j n, (nums ys)[j]? = some n → σ.i (i + j) = n) → LtL σ ys (letters i ys.length)
  | _, i, .nil, _ => .nil
  | _, i, .cons h, hn => by
    refine .cons (.int (by have := hn 0 _ rfl; rw [Nat.add_zero] at this; exact this)) (ltL_letters (i + 1) h fun j n hj => ?_)
    have := hn (j + 1) n (by simpa [nums] using hj)
    rw [show i + 1 + j = i + (j + 1) by omega]
    exact this

/-- Numbers, laid one behind the other. -/
def sigOf (l : List Int) : Sig := ⟨fun i => l.getD i 0, fun _ => false, fun _ => ⟨#[]⟩⟩

theorem read_style {W : World} {H : Type} {enc : TypeId × Value → H} {base : Nat} {spare : Nat → Bool} {held : Bool} {v : Value} {r : Reach} {b0 : Nat} {d : DataW H} {p : List MemPlace}
    (σ : Sig) (e : Value.okWide Try.prog W r b0 73 v) (h : DataW.Trod enc Try.prog W base spare held 73 v d p) : ∃ ys, Rel (rdE σ W) (.agg ys) v ∧ Ints ys ∧ ys.length = 8 := by
  obtain ⟨x, hr, hs⟩ := read_arg (P := Try.prog) (ti := tiT.get) (S := [3, 4, 73, 75, 76]) (t := 73) (σ := σ) tiT_ok closed16 (by simp) e h
  obtain ⟨ys, rfl, hsh⟩ := shV_agg ti73_at rfl hs
  have := sh_array (n := 8) (e := 3) ti73_at rfl hsh
  rw [List.append_nil] at this
  obtain ⟨h1, h2⟩ := ints_of 8 this
  exact ⟨ys, hr, h1, h2⟩

theorem read_int {W : World} {H : Type} {enc : TypeId × Value → H} {base : Nat} {spare : Nat → Bool} {held : Bool} {v : Value} {r : Reach} {b0 : Nat} {d : DataW H} {p : List MemPlace}
    (e : Value.okWide Try.prog W r b0 3 v) (h : DataW.Trod enc Try.prog W base spare held 3 v d p) : ∃ n : Int, v = .int .i64 n := by
  obtain ⟨x, hr, hs⟩ := read_arg (P := Try.prog) (ti := tiT.get) (S := [3, 4, 73, 75, 76]) (t := 3) (σ := zeroσ) tiT_ok closed16 (by simp) e h
  obtain ⟨n, rfl, _⟩ := shV_int ti3_at rfl hs
  cases hr
  exact ⟨n, rfl⟩

/-! ### ComputeNone -/
def sty8 : AV := .agg (letters 0 8)
def kE : IExp := .var 8
theorem none0 (σ : Sig) : Holds Try.prog σ 11 [sty8, .lit (.int .i64 0)] := run16 σ [] known_nil (by kernel_rfl)
theorem none1 (σ : Sig) : Holds Try.prog σ 11 [sty8, .lit (.int .i64 1)] := run16 σ [] known_nil (by kernel_rfl)
theorem none2 (σ : Sig) : Holds Try.prog σ 11 [sty8, .lit (.int .i64 2)] := run16 σ [] known_nil (by kernel_rfl)
theorem none3 (σ : Sig) (hk : Known σ [(.cmp .eql kE (.num 0), false), (.cmp .eql kE (.num 1), false), (.cmp .eql kE (.num 2), false)]) : Holds Try.prog σ 11 [sty8, .sy .i64 kE] := run16 σ _ hk (by kernel_rfl)

theorem ComputeNone_walk {H : Type} {enc : TypeId × Value → H} (W : World) {v0 v1 : Value} {r : Reach} {b0 base : Nat} {spare : Nat → Bool} {held : Bool} {d0 d1 : DataW H} {p0 p1 : List MemPlace}
    (e0 : Value.okWide Try.prog W r b0 73 v0) (h0 : DataW.Trod enc Try.prog W base spare held 73 v0 d0 p0)
    (e1 : Value.okWide Try.prog W r b0 3 v1) (h1 : DataW.Trod enc Try.prog W base spare held 3 v1 d1 p1) :
    Calls Try.prog 11 #[v0, v1] W fun e W' => e = .returned (.bool true) ∧ Below W.heap.size W W' := by
  obtain ⟨ys, hi, hl⟩ : ∃ ys, Ints ys ∧ ys.length = 8 ∧ ∀ σ, Rel (rdE σ W) (.agg ys) v0 := by
    obtain ⟨ys, hr, hi, hl⟩ := read_style zeroσ e0 h0
    refine ⟨ys, hi, hl, fun σ => ?_⟩
    cases hr with
    | agg h1 h2 =>
      refine .agg h1 fun i x v hx hv => ?_
      have := h2 i x v hx hv
      have hx' : ∃ n, x = .lit (.int .i64 n) := by
        clear h1 h2 this hv hl
        induction hi generalizing i with
        | nil => simp at hx
        | cons h ih =>
          cases i with
          | zero => simp at hx; exact ⟨_, hx.symm⟩
          | succ i => exact ih i (by simpa using hx)
      obtain ⟨n, rfl⟩ := hx'
      cases this
      exact .lit _
  obtain ⟨hl, hrel⟩ := hl
  obtain ⟨k, rfl⟩ := read_int e1 h1
  have hst : ∀ σ : Sig, (∀ j n, (nums ys)[j]? = some n → σ.i j = n) → Rel (rdE σ W) sty8 v0 := by
    intro σ hσ
    have := ltL_letters (σ := σ) 0 hi (fun j n hj => by rw [Nat.zero_add]; exact hσ j n hj)
    rw [hl] at this
    exact Lt.agg this rfl (hrel σ)
  have hn : (nums ys).length = 8 := by
    have : ∀ {zs : List AV}, (nums zs).length = zs.length := by
      intro zs
      induction zs with
      | nil => rfl
      | cons z zs ih => unfold nums; split <;> simp_all
    rw [this, hl]
  let σ : Sig := sigOf (nums ys ++ [k])
  have s0 : Rel (rdE σ W) sty8 v0 := hst σ fun j n hj => by
    have hlt := (List.getElem?_eq_some_iff.1 hj).1
    show (nums ys ++ [k]).getD j 0 = n
    rw [List.getD_eq_getElem?_getD, List.getElem?_append_left hlt, hj]
    rfl
  have s1 : kE.eval σ = k := by
    show (nums ys ++ [k]).getD 8 0 = k
    rw [List.getD_eq_getElem?_getD, List.getElem?_append_right (by omega), hn]
    rfl
  by_cases k0 : k = 0
  · subst k0; exact law_of_holds (none0 σ) (relL2 s0 (.lit _))
  by_cases k1 : k = 1
  · subst k1; exact law_of_holds (none1 σ) (relL2 s0 (.lit _))
  by_cases k2 : k = 2
  · subst k2; exact law_of_holds (none2 σ) (relL2 s0 (.lit _))
  have ne : ∀ m : Int, k ≠ m → (BExp.cmp .eql kE (.num m)).eval σ = false := fun m hm => by
    show decide (kE.eval σ = m) = false
    rw [s1]
    simpa using hm
  exact law_of_holds (none3 σ (known_cons (ne 0 k0) (known_cons (ne 1 k1) (known_cons (ne 2 k2) known_nil)))) (relL2 s0 (.sy s1))
end Go.Proofs.Ytikcninaepoojaa.Ev
