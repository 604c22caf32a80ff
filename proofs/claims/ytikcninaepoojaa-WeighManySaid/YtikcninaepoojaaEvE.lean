/- Tables. -/
import Derived.Test.YtikcninaepoojaaEvD
import Derived.KernelRfl
namespace Go.Proofs.Ytikcninaepoojaa.Ev
set_option linter.unusedVariables false
set_option linter.unusedSimpArgs false

namespace Tr
variable {α : Type}
def toL : Tr α → List (Nat × α)
  | .leaf => []
  | .node v l r => (match v with | some x => [(0, x)] | none => []) ++ (l.toL.map fun p => (2 * p.1 + 1, p.2)) ++ r.toL.map fun p => (2 * p.1 + 2, p.2)

inductive All (p : Nat → α → Prop) : List (Nat × α) → Prop where
  | nil : All p []
  | cons {k : Nat} {x : α} {l : List (Nat × α)} (h : p k x) (hs : All p l) : All p ((k, x) :: l)

theorem All.mem {p : Nat → α → Prop} {l : List (Nat × α)} (h : All p l) {k : Nat} {x : α} (hm : (k, x) ∈ l) : p k x := by
  induction h with
  | nil => cases hm
  | cons h hs ih =>
    rcases List.mem_cons.1 hm with e | hm
    · cases e; exact h
    · exact ih hm

theorem mem_toL : ∀ (t : Tr α) {k : Nat} {x : α}, t.get k = some x → (k, x) ∈ t.toL
  | .leaf, k, x, h => by simp [get] at h
  | .node v l r, k, x, h => by
    rw [get_eq] at h
    simp only [toL, List.mem_append, List.mem_map]
    by_cases hk : k = 0
    · subst hk
      simp [top] at h
      subst h
      exact .inl (.inl (by simp))
    · rw [if_neg hk] at h
      split at h
      · exact .inl (.inr ⟨((k - 1) / 2, x), mem_toL l h, by simp; omega⟩)
      · exact .inr ⟨((k - 1) / 2, x), mem_toL r h, by simp; omega⟩

theorem all_get {p : Nat → α → Prop} {t : Tr α} (h : All p t.toL) : ∀ k x, t.get k = some x → p k x := fun k x hk => h.mem (mem_toL t hk)
end Tr
end Go.Proofs.Ytikcninaepoojaa.Ev
