/- The guards of alive: calls that hang on nothing, run in the kernel. -/
import Derived.Test.YtikcninaepoojaaCtx
import Derived.Test.YtikcninaepoojaaLaw
namespace Go.Proofs.Ytikcninaepoojaa.Ev
set_option linter.unusedVariables false
set_option maxRecDepth 100000
set_option maxHeartbeats 4000000

def isT : Option (AV × Hp) → Bool
  | some (.lit (.bool b), _) => b
  | _ => false
theorem good_of_isT {P : Program} (C : Ctx P) (hm : P.follows .mixedOrders = true) {funs : Nat → Option Func} {ov : Nat → List AV → Hp → Option (AV × Hp)} (hov : ∀ f xs H r H', ov f xs H = some (r, H') → Good P C.σ f xs H r H')
    (hfuns : ∀ f fn, funs f = some fn → P.funcs[f]? = some fn ∧ (fn.name == "runtime.NumGoroutine") = false) {L d f : Nat} {xs : List AV} (hx : noIds xs = true) (h : isT (evF C funs ov L d f xs Hp.empty) = true) (H : Hp) : Good P C.σ f xs H (.lit (.bool true)) H := by
  cases he : evF C funs ov L d f xs Hp.empty with
  | none => rw [he] at h; cases h
  | some p =>
    obtain ⟨r, H'⟩ := p
    have hg := evF_ok C hm hov hfuns L d f xs Hp.empty r H' he
    rw [he] at h
    unfold isT at h
    split at h
    · rename_i e; cases e; subst h; exact hg.over hx rfl H
    · cases h


theorem alive_of {σ : Sig} {f : Nat} (h : isT (evF (CX σ [] known_nil) fnT.get noOv 1000 60 f [] Hp.empty) = true) (H : Hp) : Good Try.prog σ f [] H (.lit (.bool true)) H :=
  good_of_isT (CX σ [] known_nil) mixed noOv_ok fnT_ok (L := 1000) (d := 60) rfl h H
end Go.Proofs.Ytikcninaepoojaa.Ev
