/- A part of the abstract machine, or of a proof over it. -/
import Derived.Test.YtnpkghopofokhaaGreatDoorAmOps13
namespace Go.Am
variable {p : Pg} {P : Program} {r : Ren} {h : H} {w : World}

theorem lenB_sound (F : Fits p P) (hs : Sim P r h w) {t : Nat} {x v : V} {x' : Value} {ats : Array TypeId} {rest : List TypeId} {h' : H} (hat : ats.toList = t :: rest) (hx : VR r x x') (e0 : lenB p t x h = some (v, h')) (ty : Nat) :
    Does P r h w (Builtin.len_ ats ty #[x']) v h' := by
  have h0 : ats[0]? = some t := by rw [← Array.getElem?_toList, hat]; rfl
  unfold lenB at e0
  cases hu : und p t with
  | none => rw [hu] at e0; cases e0
  | some u =>
    rw [hu] at e0
    cases u <;> simp only [] at e0 <;> try (cases e0; done)
    · cases hx <;> simp only [] at e0 <;> try (cases e0; done)
      rename_i s
      simp only [forceNat_eq, len_eq, Option.some.injEq, Prod.mk.injEq] at e0
      obtain ⟨rfl, rfl⟩ := e0
      refine Does.same hs ⟨.int .i64 s.size, by simp [Builtin.len_, h0, run_und F hu, goInt], ?_⟩
      rw [List.length_map, Array.length_toList]; exact .int _ _
    · rename_i a
      cases hua : und p a with
      | none => rw [hua] at e0; cases e0
      | some ua =>
        rw [hua] at e0
        cases ua <;> simp only [] at e0 <;> try (cases e0; done)
        simp only [Option.some.injEq, Prod.mk.injEq] at e0
        obtain ⟨rfl, rfl⟩ := e0
        exact Does.same hs ⟨_, by simp [Builtin.len_, h0, run_und F hu, run_und F hua]; rfl, .int _ _⟩
    · cases hx <;> simp only [] at e0 <;> try (cases e0; done)
      all_goals
        simp only [Option.some.injEq, Prod.mk.injEq] at e0
        obtain ⟨rfl, rfl⟩ := e0
        exact Does.same hs ⟨_, by simp [Builtin.len_, h0, run_und F hu]; rfl, .int _ _⟩
    · simp only [Option.some.injEq, Prod.mk.injEq] at e0
      obtain ⟨rfl, rfl⟩ := e0
      exact Does.same hs ⟨_, by simp [Builtin.len_, h0, run_und F hu]; rfl, .int _ _⟩
    · cases hx <;> simp only [] at e0 <;> try (cases e0; done)
      · simp only [Option.some.injEq, Prod.mk.injEq] at e0
        obtain ⟨rfl, rfl⟩ := e0
        exact Does.same hs ⟨_, by simp [Builtin.len_, h0, run_und F hu]; rfl, .int _ _⟩
      · rename_i l loc hr
        split at e0
        · rename_i es clock hl
          simp only [forceNat_eq, len_eq, Option.some.injEq, Prod.mk.injEq] at e0
          obtain ⟨rfl, rfl⟩ := e0
          obtain ⟨-, loc', mo, h1, h2, en, rfl, h4⟩ := hs.obj l _ hl
          rw [hr] at h1; cases h1
          refine Does.same hs ⟨.int .i64 en.size, by simp [Builtin.len_, h0, run_und F hu, run_obj_map h2, goInt], ?_⟩
          rw [h4.length, Array.length_toList]; exact .int _ _
        · cases e0
theorem capB_sound (F : Fits p P) (hs : Sim P r h w) {t : Nat} {x v : V} {x' : Value} {ats : Array TypeId} {rest : List TypeId} {h' : H} (hat : ats.toList = t :: rest) (hx : VR r x x') (e0 : capB p t x h = some (v, h')) (ty : Nat) :
    Does P r h w (Builtin.cap_ ats ty #[x']) v h' := by
  have h0 : ats[0]? = some t := by rw [← Array.getElem?_toList, hat]; rfl
  unfold capB at e0
  cases hu : und p t with
  | none => rw [hu] at e0; cases e0
  | some u =>
    rw [hu] at e0
    cases u <;> simp only [] at e0 <;> try (cases e0; done)
    · cases hx <;> simp only [] at e0 <;> try (cases e0; done)
      all_goals
        simp only [Option.some.injEq, Prod.mk.injEq] at e0
        obtain ⟨rfl, rfl⟩ := e0
        exact Does.same hs ⟨_, by simp [Builtin.cap_, h0, run_und F hu]; rfl, .int _ _⟩
    · simp only [Option.some.injEq, Prod.mk.injEq] at e0
      obtain ⟨rfl, rfl⟩ := e0
      exact Does.same hs ⟨_, by simp [Builtin.cap_, h0, run_und F hu]; rfl, .int _ _⟩
theorem clearB_sound (F : Fits p P) (hs : Sim P r h w) {t : Nat} {x v : V} {x' : Value} {ats : Array TypeId} {rest : List TypeId} {h' : H} (hat : ats.toList = t :: rest) (hx : VR r x x') (e0 : clearB p t x h = some (v, h')) (ty : Nat) :
    Does P r h w (Builtin.clear_ ats ty #[x']) v h' := by
  have h0 : ats[0]? = some t := by rw [← Array.getElem?_toList, hat]; rfl
  unfold clearB at e0
  cases hu : und p t with
  | none => rw [hu] at e0; cases e0
  | some u =>
    rw [hu] at e0
    simp only [] at e0
    have row : ∀ {l o n c : Nat} {loc : Loc}, r l = some loc → x' = .slice (some ⟨loc.blk, loc.off + o, none⟩) n c → (∃ e, u = .slice e ∧ ∃ z, zeroOf p e = some z ∧ storeN h l o (rep n z.cells) (fun h => some ((.tup [] : V), h)) = some (v, h')) →
        Does P r h w (Builtin.clear_ ats ty #[x']) v h' := by
      rintro l o n c loc hr rfl ⟨e, rfl, z, hz, e1⟩
      obtain ⟨i, z', hi, hiz, hzr, hnt⟩ := zeroOf_sound F r hz
      have hzc := (hzr.cells hnt).rep n
      cases n with
      | zero =>
        simp only [rep, storeN, Option.some.injEq, Prod.mk.injEq] at e1
        obtain ⟨rfl, rfl⟩ := e1
        exact Does.same hs ⟨.tuple #[], by simp [Builtin.clear_, h0, run_und F hu], .tup .nil⟩
      | succ n =>
        rcases storeN_some e1 with ⟨hnil, hk⟩ | ⟨vs, n1, el, f1, op, h1, h2, h3, h4, h5⟩
        · simp only [Option.some.injEq, Prod.mk.injEq] at hk
          obtain ⟨rfl, rfl⟩ := hk
          rw [hnil] at hzc
          have hz0 : rep (n + 1) z'.cells.toList = [] := by generalize rep (n + 1) z'.cells.toList = q at hzc; cases hzc; rfl
          exact Does.same hs ⟨.tuple #[], by simp [Builtin.clear_, h0, run_und F hu, run_zero hi hiz, zeroCells_eq, hz0, storeCells], .tup .nil⟩
        · simp only [Option.some.injEq, Prod.mk.injEq] at h5
          obtain ⟨rfl, rfl⟩ := h5
          obtain ⟨w', q1, q2⟩ := run_storeN hs hr hzc h1 h2 h3 h4
          exact ⟨.tuple #[], w', r, by simp [Builtin.clear_, h0, run_und F hu, run_zero hi hiz, zeroCells_eq, q1], q2, .tup .nil⟩
    cases hx <;> simp only [] at e0 <;> try (cases e0; done)
    · simp only [Option.some.injEq, Prod.mk.injEq] at e0
      obtain ⟨rfl, rfl⟩ := e0
      exact Does.same hs ⟨.tuple #[], by simp [Builtin.clear_, h0, run_und F hu], .tup .nil⟩
    · rename_i hr
      refine row hr rfl ?_
      cases u <;> simp only [] at e0 <;> try (cases e0; done)
      split at e0
      · exact ⟨_, rfl, _, by assumption, e0⟩
      · cases e0
    · rename_i c hr hc
      refine row (c := c) hr rfl ?_
      cases u <;> simp only [] at e0 <;> try (cases e0; done)
      split at e0
      · exact ⟨_, rfl, _, by assumption, e0⟩
      · cases e0
    · simp only [Option.some.injEq, Prod.mk.injEq] at e0
      obtain ⟨rfl, rfl⟩ := e0
      exact Does.same hs ⟨.tuple #[], by simp [Builtin.clear_, h0, run_und F hu], .tup .nil⟩
    · simp only [Option.some.injEq, Prod.mk.injEq] at e0
      obtain ⟨rfl, rfl⟩ := e0
      exact Does.same hs ⟨.tuple #[], by simp [Builtin.clear_, h0, run_und F hu], .tup .nil⟩
    · rename_i l loc hr
      split at e0
      · rename_i es clock hl
        simp only [H.set_eq, Option.some.injEq, Prod.mk.injEq] at e0
        obtain ⟨rfl, rfl⟩ := e0
        obtain ⟨-, loc', mo, h1, h2, en, rfl, h4⟩ := hs.obj l _ hl
        rw [hr] at h1; cases h1
        have hbl : loc.blk < w.heap.size := (Array.getElem?_eq_some_iff.1 h2).1
        refine ⟨.tuple #[], { w with heap := w.heap.setIfInBounds loc.blk (.map #[] clock) }, r, ?_, ?_, .tup .nil⟩
        · simp [Builtin.clear_, h0, run_und F hu, run_obj_map h2, run_put_map _ h2]
        · exact hs.set hl (fun _ _ hh => by cases hh) hr (by simp) (m' := .map #[] clock) (by simp [hbl]) (fun b hb => by simp [Array.getElem?_setIfInBounds_ne (Ne.symm hb)]) ⟨_, rfl, .nil⟩ rfl rfl rfl
      · cases e0
theorem delB_sound (F : Fits p P) (hs : Sim P r h w) {t : Nat} {m k v : V} {m' k' : Value} {ats : Array TypeId} {rest : List TypeId} {h' : H} (hat : ats.toList = t :: rest) (hm : VR r m m') (hk : VR r k k') (e0 : delB p t m k h = some (v, h')) (ty : Nat) :
    Does P r h w (Builtin.delete_ ats ty #[m', k']) v h' := by
  have hdel : Builtin.delete_ ats ty #[m', k'] = Builtin.delete_ #[t] ty #[m', k'] := by
    have h0 : ats[0]? = some t := by rw [← Array.getElem?_toList, hat]; rfl
    unfold Builtin.delete_
    rw [h0]; rfl
  rw [hdel]
  unfold delB at e0
  split at e0
  · rename_i kt et hu
    cases hok : keyOk p kt k with
    | false => rw [hok] at e0; cases e0
    | true =>
      rw [hok] at e0
      simp only [] at e0
      cases m <;> simp only [] at e0 <;> try (cases e0; done)
      · simp only [Option.some.injEq, Prod.mk.injEq] at e0
        obtain ⟨rfl, rfl⟩ := e0
        cases hm
        exact Does.same hs ⟨.tuple #[], by simp [Builtin.delete_, run_und F hu, checkKey_sound F hk hok], .tup .nil⟩
      · rename_i l
        split at e0
        · rename_i es clock hl
          cases hf : findK p h kt k es 0 with
          | none => rw [hf] at e0; cases e0
          | some o =>
            rw [hf] at e0
            cases o with
            | none =>
              simp only [delK, Option.some.injEq, Prod.mk.injEq] at e0
              obtain ⟨rfl, rfl⟩ := e0
              exact delete_none F hs hu hok hm hk hl hf ty
            | some o =>
              obtain ⟨i, v1⟩ := o
              simp only [delK, forceL_eq, delL_eq, H.set_eq, Option.some.injEq, Prod.mk.injEq] at e0
              obtain ⟨rfl, rfl⟩ := e0
              exact delete_sound F hs hu hok hm hk hl hf ty
        · cases e0
  · cases e0
theorem minB_sound (hs : Sim P r h w) {x y v : V} {x' y' : Value} {h' : H} (hx : VR r x x') (hy : VR r y y') (e0 : minB h x y = some (v, h')) (ats : Array TypeId) (ty : Nat) : Does P r h w (Builtin.min_ ats ty #[x', y']) v h' := by
  unfold minB at e0
  split at e0
  · cases hx; cases hy
    rename_i k a j b
    simp only [Option.some.injEq, Prod.mk.injEq, intLt_iff] at e0
    obtain ⟨rfl, rfl⟩ := e0
    refine Does.same hs ⟨.int k (if b < a then b else a), by simp [Builtin.min_, Builtin.min2], ?_⟩
    by_cases hh : b < a
    · simp only [hh, decide_true, if_true]; exact .int _ _
    · simp only [hh, decide_false, if_false]; exact .int _ _
  · cases e0
theorem maxB_sound (hs : Sim P r h w) {x y v : V} {x' y' : Value} {h' : H} (hx : VR r x x') (hy : VR r y y') (e0 : maxB h x y = some (v, h')) (ats : Array TypeId) (ty : Nat) : Does P r h w (Builtin.max_ ats ty #[x', y']) v h' := by
  unfold maxB at e0
  split at e0
  · cases hx; cases hy
    rename_i k a j b
    simp only [Option.some.injEq, Prod.mk.injEq, intLt_iff] at e0
    obtain ⟨rfl, rfl⟩ := e0
    refine Does.same hs ⟨.int k (if b > a then b else a), by simp [Builtin.max_, Builtin.max2], ?_⟩
    by_cases hh : a < b
    · simp only [hh, decide_true, if_true]; exact .int _ _
    · simp only [hh, decide_false, if_false]; exact .int _ _
  · cases e0
theorem ssdB_sound (hs : Sim P r h w) {x v : V} {x' : Value} {h' : H} (hx : VR r x x') (e0 : ssdB h x = some (v, h')) (ats : Array TypeId) (ty : Nat) : Does P r h w (Builtin.unsafeSliceData_ ats ty #[x']) v h' := by
  cases hx <;> simp only [ssdB] at e0 <;> try (cases e0; done)
  · simp only [Option.some.injEq, Prod.mk.injEq] at e0
    obtain ⟨rfl, rfl⟩ := e0
    exact Does.same hs ⟨_, Lib.run_unsafeSliceData_nil w ats ty 0 0, .nilp⟩
  · rename_i l o n c loc hr
    cases c with
    | zero => cases e0
    | succ c =>
      simp only [Option.some.injEq, Prod.mk.injEq] at e0
      obtain ⟨rfl, rfl⟩ := e0
      exact Does.same hs ⟨_, Lib.run_unsafeSliceData_row w ats ty _ n _ (by omega), .ptr hr⟩
  · rename_i l o n loc c hr hc
    cases n with
    | zero => cases e0
    | succ n =>
      simp only [] at e0
      split at e0
      · rename_i vs kn e frz opn hl
        simp only [blt_iff] at e0
        by_cases hok : o < kn
        · rw [decide_eq_true hok] at e0
          simp only [Option.some.injEq, Prod.mk.injEq] at e0
          obtain ⟨rfl, rfl⟩ := e0
          obtain ⟨c0, lo, hi, k1, k2, k3, k4⟩ := cells_shape hs hr hl
          have hc0 : c ≠ 0 := by
            rintro rfl
            rw [Nat.zero_mul] at hc; omega
          exact Does.same hs ⟨_, Lib.run_unsafeSliceData_row w ats ty _ _ _ hc0, .ptr hr⟩
        · rw [decide_eq_false hok] at e0; cases e0
      · cases e0
end Go.Am
