/- A part of the abstract machine, or of a proof over it. -/
import Derived.Test.YtnpkghopofokhaaGreatDoorAmOps9
namespace Go.Am
variable {p : Pg} {P : Program} {r : Ren} {h : H} {w : World}

/-! ### Append -/
theorem growBy_le (n : Nat) : ∀ (k c : Nat), Builtin.growBy n k c ≤ max c (2 * n + 1000)
  | 0, c => Nat.le_max_left _ _
  | k + 1, c => by
    unfold Builtin.growBy
    split
    · exact Nat.le_max_left _ _
    · have := growBy_le n k (c + (c + 768) / 4)
      refine Nat.le_trans this ?_
      omega
theorem nextslicecap_le {n c : Nat} (hc : c < n) : Builtin.nextslicecap n c ≤ 2 * n + 1000 := by
  unfold Builtin.nextslicecap
  split
  · omega
  · split
    · omega
    · have := growBy_le n 4 c
      omega
theorem growOk_iff {b n : Nat} (h : growOk b n = true) : n ≤ 1099511627776 ∧ (2 * n + 1000) * b ≤ 281474976710656 := by
  simp only [growOk, ble_iff, Bool.and_eq_true, decide_eq_true_eq] at h
  exact h
theorem wrap_nat {n : Nat} (h : n < 9223372036854775808) : IntKind.i64.wrap (n : Int) = n := by
  have : wrapS .i64 (Int.ofNat n) = IntKind.i64.wrap (Int.ofNat n) := wrapS_eq _ _
  rw [show (n : Int) = Int.ofNat n from rfl, ← this]
  simp only [wrapS, blt_iff, lim]
  rw [decide_eq_true (show n < 9223372036854775808 from h)]
/-- The cells that an append lays behind. -/
def newS (zeros : Bool) (e size m : Nat) (x : Value) : Sem (Array Value) :=
  if !zeros then Builtin.firstCells size m x else if m * size = 0 then pure #[] else do pure (Builtin.zeroCells (← zeroValue e).cells m)
def fitS (zeros : Bool) (e size m : Nat) (x : Value) (base : Option Addr) (sLen sCap : Nat) : Sem Value := do
  let new ← newS zeros e size m x
  if let some a := base then storeCells (a.add (sLen * size)) new.toList
  pure (.slice base (sLen + m) sCap)
def growS (zeros : Bool) (e size bytes m : Nat) (x s : Value) (sLen sCap : Nat) : Sem Value := do
  let newCap ← choose (.appendCap (sLen + m) sCap e)
  askRoom (newCap * bytes)
  let old ← Builtin.firstCells size sLen s
  let new ← newS zeros e size m x
  let rest := Builtin.zeroCells (← zeroValue e).cells (newCap - (sLen + m))
  pure (.slice (some (← Go.newRow e (old ++ new ++ rest))) (sLen + m) newCap)
set_option maxHeartbeats 2000000 in
theorem run_append {st xt e m : Nat} {i : TypeInfo} {u : TypeDesc} {x : Value} {ats : Array TypeId} {base : Option Addr} {sLen sCap : Nat} {rest : List TypeId} (hat : ats.toList = st :: xt :: rest) (hu : P.underlying st = some (.slice e)) (hi : P.info? e = some i)
    (hux : P.underlying xt = some u) (hz : isIntD u = true → (∃ k, x = .int k m) ∧ m ≤ 1099511627776 ∧ m * i.bytes ≤ 281474976710656) (hz' : isIntD u = false → ∀ w, (Builtin.lenOf x).run P w = .ok m w)
    (hg : ¬ sLen + m ≤ sCap → sLen + m ≤ 1099511627776 ∧ Builtin.nextslicecap (sLen + m) sCap * i.bytes ≤ 281474976710656) (ty : Nat) (w : World) :
    (Builtin.append_ ats ty #[.slice base sLen sCap, x]).run P w = (if sLen + m ≤ sCap then (fitS (isIntD u) e i.size m x base sLen sCap).run P w else (growS (isIntD u) e i.size i.bytes m x (.slice base sLen sCap) sLen sCap).run P w) := by
  have h0 : ats[0]? = some st := by rw [← Array.getElem?_toList, hat]; rfl
  have h1 : ats[1]? = some xt := by rw [← Array.getElem?_toList, hat]; rfl
  unfold Builtin.append_
  simp only [h0, h1, List.getElem?_toArray, List.getElem?_cons_zero, List.getElem?_cons_succ, Sem.run_bind, run_underlying hu, Result.andThen_ok, run_size hi, run_underlying hux, Sem.run_pure]
  cases hb : isIntD u with
  | true =>
    obtain ⟨⟨k, rfl⟩, hm, hmb⟩ := hz hb
    have hw := wrap_nat (n := m) (by omega)
    have hcm : ¬ ((m : Int) * (i.bytes : Int) > 2 ^ 48) := by rw [← Int.natCast_mul]; omega
    have hlt : ¬ ((m : Int) < 0) := by omega
    cases u <;> first | (simp [isIntD] at hb; done) | skip
    simp only [if_true, Sem.run_bind, asInt, asIntOf, Sem.run_pure, Result.andThen_ok, hw, Sem.run_ite, run_info hi, if_neg hlt, if_neg hcm, Int.toNat_natCast]
    split
    · simp only [fitS, newS, Bool.not_true, Bool.false_eq_true, if_false, Sem.run_bind, Sem.run_ite, Sem.run_pure]
      cases base <;> rfl
    · rename_i hn
      obtain ⟨hg1, hg2⟩ := hg hn
      have hg3 : ¬ (((sLen + m : Nat) : Int) > IntKind.i64.max) := by simp [IntKind.max, IntKind.bits, IntKind.signed]; omega
      have hg4 : ¬ (Builtin.nextslicecap (sLen + m) sCap * i.bytes > 2 ^ 48) := by omega
      rw [if_neg (fun hh => hg3 hh.1), if_neg hg4]
      simp only [growS, newS, Bool.not_true, Bool.false_eq_true, if_false, Sem.run_bind, Sem.run_ite, Sem.run_pure]
  | false =>
    have hl := hz' hb
    cases u <;> first
      | (simp [isIntD] at hb; done)
      | (simp only [Bool.false_eq_true, if_false, hl, Result.andThen_ok, Sem.run_bind, Sem.run_ite, run_info hi]
         split
         · simp only [fitS, newS, Bool.not_false, if_true, Sem.run_bind]
           cases base <;> rfl
         · rename_i hn
           obtain ⟨hg1, hg2⟩ := hg hn
           have hg3 : ¬ (((sLen + m : Nat) : Int) > IntKind.i64.max) := by simp [IntKind.max, IntKind.bits, IntKind.signed]; omega
           have hg4 : ¬ (Builtin.nextslicecap (sLen + m) sCap * i.bytes > 2 ^ 48) := by omega
           rw [if_neg (fun hh => hg3 hh.1), if_neg hg4]
           simp only [growS, newS, Bool.not_false, if_true, Sem.run_bind])
end Go.Am
