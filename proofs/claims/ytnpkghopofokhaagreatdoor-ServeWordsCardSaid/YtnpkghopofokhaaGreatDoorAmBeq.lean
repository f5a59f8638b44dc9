/- A part of the abstract machine, or of a proof over it. -/
import Derived.Test.YtnpkghopofokhaaGreatDoorAmRel
namespace Go.Am
/-- What says no more is told by what is told. -/
theorem beqL_sound {r : Ren} {f : V → V → Bool} (hf : ∀ a b, f a b = true → ∀ v, VR r b v → VR r a v) : ∀ (l m : List V), beqL f l m = true → ∀ vs, VRs r m vs → VRs r l vs
  | [], [], _, _, h => h
  | [], _ :: _, e, _, _ => by simp [beqL] at e
  | _ :: _, [], e, _, _ => by simp [beqL] at e
  | a :: l, b :: m, e, vs, h => by
    simp only [beqL] at e
    cases hab : f a b with
    | false => rw [hab] at e; cases e
    | true =>
      rw [hab] at e
      cases h with
      | cons h t => exact .cons (hf a b hab _ h) (beqL_sound hf l m e _ t)
theorem capEq_eq {a b : Option Nat} (h : capEq a b = true) : a = b := by
  cases a <;> cases b <;> simp_all [capEq, beq_iff]
theorem fnEq_eq {a b : Fn} (h : fnEq a b = true) : a = b := by
  cases a <;> cases b <;> simp_all [fnEq, beq_iff]
theorem beqL_nil {f : V → V → Bool} {l : List V} (h : beqL f l [] = true) : l = [] := by cases l <;> simp_all [beqL]
theorem beqV_sound {r : Ren} : ∀ (n : Nat) (a b : V), beqV n a b = true → ∀ v, VR r b v → VR r a v := by
  intro n
  induction n with
  | zero => intro a b e; simp [beqV] at e
  | succ n ih =>
    intro a b e v hv
    unfold beqV at e
    split at e
    · have := beq_iff_eq.1 e
      subst this; exact hv
    · simp only [kindEq_iff, intEq_iff, Bool.and_eq_true, decide_eq_true_eq] at e
      obtain ⟨rfl, rfl⟩ := e; exact hv
    · simp only [bytesEq_iff, decide_eq_true_eq] at e
      subst e; exact hv
    · exact hv
    · simp only [beq_iff, Bool.and_eq_true, decide_eq_true_eq] at e
      obtain ⟨rfl, rfl⟩ := e; exact hv
    · exact hv
    · simp only [beq_iff, Bool.and_eq_true, decide_eq_true_eq] at e
      obtain ⟨⟨⟨rfl, rfl⟩, rfl⟩, e⟩ := e
      have := capEq_eq e; subst this; exact hv
    · exact hv
    · exact hv
    · simp only [beq_iff, decide_eq_true_eq] at e
      subst e; exact hv
    · simp only [Bool.and_eq_true] at e
      obtain ⟨⟨e1, e2⟩, e3⟩ := e
      have := fnEq_eq e1
      subst this
      cases hv with
      | func ha hb => exact .func (beqL_sound ih _ _ e2 _ ha) (beqL_sound ih _ _ e3 _ hb)
      | yield hl => rw [beqL_nil e2, beqL_nil e3]; exact .yield hl
    · exact hv
    · simp only [beq_iff, Bool.and_eq_true, decide_eq_true_eq] at e
      obtain ⟨rfl, e⟩ := e
      cases hv with
      | iface h => exact .iface (ih _ _ e _ h)
    · exact hv
    · cases hv with
      | agg h => exact .agg (beqL_sound ih _ _ e _ h)
    · cases hv with
      | tup h => exact .tup (beqL_sound ih _ _ e _ h)
    · exact .any _ (hv.plain e)
    · exact .top _
    · cases e
end Go.Am
