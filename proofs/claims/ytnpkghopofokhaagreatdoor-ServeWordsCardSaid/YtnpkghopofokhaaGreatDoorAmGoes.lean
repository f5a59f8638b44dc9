/- A program of which no text starts a goroutine goes nowhere. -/
import GoSem.ClaimSeven
import Derived.KernelRfl
namespace Go.Am
variable {P : Program}
/-- No text starts a goroutine. -/
theorem goes_none {c : OpenClaim} (hst : c.start = .entering) (h : (P.funcs.toList.any Func.goes) = false) : false = c.goesBy P := by
  have hall : ∀ (g : Nat) (fn : Func), P.funcs[g]? = some fn → fn.goes = false := fun g fn hg => by
    have hm : fn ∈ P.funcs.toList := by
      rw [← Array.getElem?_toList] at hg; exact List.mem_of_getElem? hg
    cases e : fn.goes with
    | false => rfl
    | true => rw [List.any_eq_false] at h; exact absurd e (h fn hm)
  have hany : P.funcs.any Func.goes = false := by rw [← Array.any_toList]; exact h
  have hgoes : ∀ f, P.goes f = false := fun f => by
    unfold Program.goes
    rw [hany, Bool.and_false, Bool.or_false, List.any_eq_false]
    intro g _
    cases e : P.funcs[g]? with
    | none => simp
    | some fn => simp [hall g fn e]
  unfold OpenClaim.goesBy Program.goesAt Program.goesFrom
  rw [hst]
  simp only [Bool.or_false]
  cases P.funcNamed c.func with
  | none => rfl
  | some f => simp [hgoes f]
end Go.Am
