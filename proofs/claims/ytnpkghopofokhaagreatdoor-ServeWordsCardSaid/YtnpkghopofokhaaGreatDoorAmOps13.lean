/- A part of the abstract machine, or of a proof over it. -/
import Derived.Test.YtnpkghopofokhaaGreatDoorAmOps12
import Derived.Lib.UnsafeStr
namespace Go.Am
variable {p : Pg} {P : Program} {r : Ren} {h : H} {w : World}

/-! ### The other builtins -/
theorem OneR {v : V} {l : List Value} (h : VRs r [v] l) : ∃ v', l = [v'] ∧ VR r v v' := by cases h with | cons h t => cases t; exact ⟨_, rfl, h⟩
theorem TwoR {u v : V} {l : List Value} (h : VRs r [u, v] l) : ∃ u' v', l = [u', v'] ∧ VR r u u' ∧ VR r v v' := by
  cases h with | cons h t => obtain ⟨v', rfl, k⟩ := OneR t; exact ⟨_, _, rfl, h, k⟩
theorem one_arr {v : V} {a : Array Value} (h : VRs r [v] a.toList) : ∃ v', a = #[v'] ∧ VR r v v' := by
  obtain ⟨v', h1, h2⟩ := OneR h; exact ⟨v', Array.ext' h1, h2⟩
theorem two_arr {u v : V} {a : Array Value} (h : VRs r [u, v] a.toList) : ∃ u' v', a = #[u', v'] ∧ VR r u u' ∧ VR r v v' := by
  obtain ⟨u', v', h1, h2, h3⟩ := TwoR h; exact ⟨u', v', Array.ext' h1, h2, h3⟩
theorem copyA_sound (F : Fits p P) (hs : Sim P r h w) {dt : Nat} {d s v : V} {d' s' : Value} {h' : H} {ats : Array TypeId} {rest : List TypeId} (hat : ats.toList = dt :: rest) (hd : VR r d d') (hsv : VR r s s') (e0 : copyA p dt d s h = some (v, h')) (ty : Nat) :
    Does P r h w (Builtin.copy_ ats ty #[d', s']) v h' := by
  have h0 : ats[0]? = some dt := by rw [← Array.getElem?_toList, hat]; rfl
  unfold copyA at e0
  split at e0
  · rename_i e hu
    split at e0
    · rename_i size dn sn hz hdn hsn
      simp only [forceNat_eq] at e0
      cases hc : cellsA size s (Nat.min sn dn) h with
      | none => rw [hc] at e0; cases e0
      | some cs =>
        rw [hc] at e0
        simp only [] at e0
        obtain ⟨cs', k1, k2⟩ := cellsA_sound hs hsv (fun k hk => by rw [hsn] at hk; cases hk; exact Nat.min_le_left _ _) (by rw [hsn]; simp) hc
        have k1' := k1 w.drawn
        rw [show ({ w with drawn := w.drawn } : World) = w from rfl] at k1'
        have hl := lenA_sound hsv hsn (P := P) w
        have fin : ∀ base c, d' = .slice base dn c → (∃ w' r', (match base with | some a => storeCells a cs' | none => pure () : Sem Unit).run P w = .ok () w' ∧ Step P r h w r' h' w' ∧ VR r' v (goInt (Nat.min sn dn))) → Does P r h w (Builtin.copy_ ats ty #[d', s']) v h' := by
          rintro base c rfl ⟨w', r', q1, q2, q3⟩
          refine ⟨_, w', r', ?_, q2, q3⟩
          unfold Builtin.copy_
          simp only [h0, List.getElem?_toArray, List.getElem?_cons_zero, List.getElem?_cons_succ, Sem.run_bind, run_und F hu, Result.andThen_ok, hl, run_sz F hz, k1']
          cases base with
          | none =>
            have q1' : (Result.ok () w : Result Unit) = .ok () w' := q1
            injection q1' with _ q1'
            rw [q1']; rfl
          | some a =>
            simp only [] at q1 ⊢
            rw [Sem.run_bind, q1, Result.andThen_ok]
            rfl
        cases hd with
        | sl hr =>
          simp only [lenA, Option.some.injEq] at hdn; subst hdn
          simp only [] at e0
          refine fin _ _ rfl ?_
          rcases storeN_some e0 with ⟨hnil, hk⟩ | ⟨vs, n1, el, f1, op, h1, h2, h3, h4, h5⟩
          · subst hnil
            cases k2
            simp only [Option.some.injEq, Prod.mk.injEq] at hk
            obtain ⟨rfl, rfl⟩ := hk
            exact ⟨w, r, by simp [storeCells], Step.refl hs, .int _ _⟩
          · simp only [Option.some.injEq, Prod.mk.injEq] at h5
            obtain ⟨rfl, rfl⟩ := h5
            obtain ⟨w', q1, q2⟩ := run_storeN hs hr k2 h1 h2 h3 h4
            exact ⟨w', r, q1, q2, .int _ _⟩
        | slo c hr hc =>
          simp only [lenA, Option.some.injEq] at hdn; subst hdn
          simp only [] at e0
          refine fin _ _ rfl ?_
          rcases storeN_some e0 with ⟨hnil, hk⟩ | ⟨vs, n1, el, f1, op, h1, h2, h3, h4, h5⟩
          · subst hnil
            cases k2
            simp only [Option.some.injEq, Prod.mk.injEq] at hk
            obtain ⟨rfl, rfl⟩ := hk
            exact ⟨w, r, by simp [storeCells], Step.refl hs, .int _ _⟩
          · simp only [Option.some.injEq, Prod.mk.injEq] at h5
            obtain ⟨rfl, rfl⟩ := h5
            obtain ⟨w', q1, q2⟩ := run_storeN hs hr k2 h1 h2 h3 h4
            exact ⟨w', r, q1, q2, .int _ _⟩
        | nils =>
          simp only [lenA, Option.some.injEq] at hdn; subst hdn
          simp only [Option.some.injEq, Prod.mk.injEq] at e0
          obtain ⟨rfl, rfl⟩ := e0
          exact fin none 0 rfl ⟨w, r, rfl, Step.refl hs, .int _ _⟩
        | sl0 a c =>
          simp only [lenA, Option.some.injEq] at hdn; subst hdn
          simp only [Option.some.injEq, Prod.mk.injEq] at e0
          obtain ⟨rfl, rfl⟩ := e0
          have : cs' = [] := by
            have hl0 : cs.length = 0 := by
              have hm0 : Nat.min sn 0 = 0 := Nat.min_zero _
              rw [hm0] at hc
              cases s <;> simp only [cellsA] at hc <;> try (cases hc; done)
              · simp only [beq_iff] at hc
                by_cases h1 : size = 1
                · rw [show decide (size = nat_lit 1) = true from decide_eq_true h1] at hc; cases hc; simp [takeL_eq, u8s]
                · rw [show decide (size = nat_lit 1) = false from decide_eq_false h1] at hc; cases hc
              · cases hc; rfl
              · rw [Nat.zero_mul] at hc; exact loadN_length hc
              · cases hc; rfl
            rw [k2.length] at hl0; exact List.length_eq_zero_iff.1 hl0
          subst this
          exact fin (some a) c rfl ⟨w, r, by simp [storeCells], Step.refl hs, .int _ _⟩
        | _ => first | (simp [lenA] at hdn; done) | (cases e0; done)
    · cases e0
  · cases e0
end Go.Am
