/- A part of the abstract machine, or of a proof over it. -/
import Derived.Test.YtnpkghopofokhaaGreatDoorAmOps14
namespace Go.Am
variable {p : Pg} {P : Program} {r : Ren} {h : H} {w : World}

theorem liesAt_off {e : TypeId} (hc : P.cellsOf e = 1) (count off n : Nat) (hn : off + n ≤ count) : liesAt P P.depth e count off e n = true := by
  have hd : P.depth = (2 * (P.types.size + Made.depth) + 1) + 1 := rfl
  rw [hd]
  simp only [liesAt, Bool.or_eq_true]
  left
  rw [hd]
  simp [rowAt, hc, hn, sameLayout, Nat.mod_one]
theorem fzTo_sound {lo hi : Nat} {loc : Loc} {frz : Fz} {z : Nat} (hf : FzR lo hi loc frz) (e : fzTo frz = some z) : hi ≤ loc.off + z := by
  cases frz with
  | no => obtain ⟨rfl, rfl⟩ := hf; exact Nat.zero_le _
  | pre z' => simp only [fzTo, Option.some.injEq] at e; subst e; exact hf
  | tail => cases e
theorem ustrB_sound (F : Fits p P) (hs : Sim P r h w) {t : Nat} {x y v : V} {x' y' : Value} {h' : H} {ats : Array TypeId} {rest : List TypeId} (hat : ats.toList = t :: rest) (hx : VR r x x') (hy : VR r y y') (e0 : ustrB p t h x y = some (v, h')) (ty : Nat) :
    Does P r h w (Builtin.unsafeString_ ats ty #[x', y']) v h' := by
  have h0 : ats[0]? = some t := by rw [← Array.getElem?_toList, hat]; rfl
  have hmax : IntKind.i64.max = 9223372036854775807 := rfl
  unfold ustrB at e0
  split at e0
  · cases hx; cases hy
    simp only [Option.some.injEq, Prod.mk.injEq] at e0
    obtain ⟨rfl, rfl⟩ := e0
    rename_i k
    refine Does.same hs ⟨.string .empty, ?_, .str .empty⟩
    have hdef : Builtin.unsafeString_ ats ty #[.pointer none, .int k (.ofNat 0)] =
        (do
          let n ← asInt (.int k (.ofNat 0))
          let some _ := ats[0]? | stuck "unsafe.String: no argument types"
          if n < 0 then runtimePanic (.error "unsafe.String: len out of range")
          if n > IntKind.i64.max then unsupported (.unsafePointer "String: a length above the largest int")
          if n = 0 then pure (.string .empty)
          else runtimePanic (.error "unsafe.String: ptr is nil and len is not zero")) := rfl
    rw [hdef]
    simp [asInt, asIntOf, hmax, h0]
  · rename_i l o k n
    cases hy
    cases hx with | ptr hr =>
    rename_i loc
    split at e0
    · rename_i e hu
      split at e0
      · rename_i vs kn e' frz opn hl
        split at e0
        · rename_i z hg hz hfz
          simp only [beq_iff, ble_iff, Bool.and_eq_true, decide_eq_true_eq] at hg
          obtain ⟨⟨rfl, hle⟩, h63⟩ := hg
          replace hle : o + (n + 1) ≤ kn := hle
          cases hrg : vs.range o (n + 1) with
          | none => rw [hrg] at e0; cases e0
          | some cs =>
            rw [hrg] at e0
            simp only [strK] at e0
            cases hb : bytesV cs with
            | none => rw [hb] at e0; cases e0
            | some s =>
              rw [hb] at e0
              simp only [forceB_eq, forceNat_eq, H.set_eq, Option.some.injEq, Prod.mk.injEq] at e0
              obtain ⟨rfl, rfl⟩ := e0
              obtain ⟨c, lo, hi, k1, k2, k3, k4, k5, k6, k7⟩ := cells_shape hs hr hl
              obtain ⟨i, hi1, hi2⟩ := szOf_sound F hz
              have hcell1 : P.cellsOf e = 1 := by simp [Program.cellsOf, hi1, hi2]
              have hln : loadN h l o (n + 1) = some cs := by simp [loadN, hl, cellsOf, rangeOf, hrg]
              obtain ⟨cs', q3, q2, q1⟩ := cells_at hs hr hln
              obtain ⟨rfl, hlt⟩ := bytesV_sound q2 hb
              have hsl : s.length = n + 1 := by simpa using q3
              have hcellv : ∀ j x, (s.map UInt8.ofNat)[j]? = some x → w.cell? ((⟨loc.blk, loc.off + o, none⟩ : Addr).add j) = some (.int .u8 x.toNat) := by
                intro j x hj
                rw [List.getElem?_map] at hj
                cases hsj : s[j]? with
                | none => rw [hsj] at hj; cases hj
                | some b =>
                  rw [hsj] at hj
                  simp only [Option.map_some, Option.some.injEq] at hj
                  subst hj
                  rw [toNat_ofNat_lt (hlt b (List.mem_of_getElem? hsj)), Addr.add_none]
                  exact q1 j _ (by rw [List.getElem?_map, hsj]; rfl)
              have hlb := Lib.run_loadBytes (P := P) w (s.map UInt8.ofNat) ⟨loc.blk, loc.off + o, none⟩ .empty hcellv
              rw [List.length_map, hsl] at hlb
              have hlies := liesAt_off (P := P) hcell1 (c.size / P.cellsOf e) (loc.off + o) (n + 1) (by rw [hcell1, Nat.div_one]; omega)
              have hsh : w.shape? loc.blk = some (e, c.size) := by simp [World.shape?, k1]
              refine ⟨.string (strOf s), w.freeze ⟨loc.blk, loc.off + o, none⟩ (n + 1), r, ?_, ?_, strOf_sound r hlt⟩
              · have hdef : Builtin.unsafeString_ ats ty #[.pointer (some ⟨loc.blk, loc.off + o, none⟩), .int k (.ofNat (n + 1))] =
                    (do
                      let n1 ← asInt (.int k (.ofNat (n + 1)))
                      let some pt := ats[0]? | stuck "unsafe.String: no argument types"
                      if n1 < 0 then runtimePanic (.error "unsafe.String: len out of range")
                      if n1 > IntKind.i64.max then unsupported (.unsafePointer "String: a length above the largest int")
                      if n1 = 0 then pure (.string .empty)
                      else if ← variablesAt ⟨loc.blk, loc.off + o, none⟩ (← elemOf pt) n1.toNat then do
                        let s ← loadBytes ⟨loc.blk, loc.off + o, none⟩ .empty n1.toNat
                        freeze ⟨loc.blk, loc.off + o, none⟩ n1.toNat
                        pure (.string s)
                      else unsupported (.unsafePointer "String: not so many bytes at ptr")) := rfl
                rw [hdef]
                have g1 : ¬ (Int.ofNat (n + 1) < 0) := by simp only [Int.ofNat_eq_natCast]; omega
                have g2 : ¬ (Int.ofNat (n + 1) > 9223372036854775807) := by simp only [Int.ofNat_eq_natCast]; omega
                have g3 : ¬ (Int.ofNat (n + 1) = 0) := by simp only [Int.ofNat_eq_natCast]; omega
                have g4 : (Int.ofNat (n + 1)).toNat = n + 1 := rfl
                have hvar : (variablesAt ⟨loc.blk, loc.off + o, none⟩ e (n + 1)).run P w = .ok true w := by simp [variablesAt, hsh, hlies]
                have hel : (elemOf t).run P w = .ok e w := by simp [elemOf, run_und F hu]
                simp only [asInt, asIntOf, Sem.run_bind, Sem.run_pure, Result.andThen_ok, h0, hmax, Sem.run_ite, if_neg g1, if_neg g2, if_neg g3, g4, hel, hvar, if_true, hlb, run_freeze]
                simp [strOf]
              · have hf : w.freeze ⟨loc.blk, loc.off + o, none⟩ (n + 1) = { w with heap := w.heap.modify loc.blk fun
                    | .cells c elem (lo, hi) => .cells c elem (if lo == hi then (loc.off + o, loc.off + o + (n + 1)) else (min lo (loc.off + o), max hi (loc.off + o + (n + 1))))
                    | o => o } := by simp only [World.freeze]; rw [if_neg (by omega)]; rfl
                have hbl : loc.blk < w.heap.size := (Array.getElem?_eq_some_iff.1 k1).1
                have f1 := fzTo_sound k6 hfz
                rw [hf]
                refine hs.set hl (fun _ _ hh => by cases hh) hr (by simp) (m' := .cells c e (if lo == hi then (loc.off + o, loc.off + o + (n + 1)) else (min lo (loc.off + o), max hi (loc.off + o + (n + 1)))))
                  (by simp [Array.getElem?_modify, k1]) (fun b hb => by simp only [Array.getElem?_modify]; rw [if_neg (fun e => hb e.symm)]) ?_ rfl rfl rfl
                refine ⟨c, (if lo == hi then (loc.off + o, loc.off + o + (n + 1)) else (min lo (loc.off + o), max hi (loc.off + o + (n + 1)))).1, (if lo == hi then (loc.off + o, loc.off + o + (n + 1)) else (min lo (loc.off + o), max hi (loc.off + o + (n + 1)))).2, rfl, k2, k3, k4, k5, ?_, k7⟩
                show _ ≤ _
                split
                · show loc.off + o + (n + 1) ≤ loc.off + max z (Nat.add o (n + 1))
                  have : o + (n + 1) ≤ max z (Nat.add o (n + 1)) := Nat.le_max_right _ _
                  omega
                · show max hi (loc.off + o + (n + 1)) ≤ loc.off + max z (Nat.add o (n + 1))
                  have h1 : o + (n + 1) ≤ max z (Nat.add o (n + 1)) := Nat.le_max_right _ _
                  have h2 : z ≤ max z (Nat.add o (n + 1)) := Nat.le_max_left _ _
                  omega
        · cases e0
      · cases e0
    · cases e0
  · cases e0
theorem builtA_sound (F : Fits p P) (hs : Sim P r h w) {b : Builtin} {ats : Array TypeId} {args : List V} {args' : Array Value} {v : V} {h' : H} (ha : VRs r args args'.toList) (e0 : builtA p b ats.toList args h = some (v, h')) (ty : Nat) (consts : Array Bool) :
    ∃ v' w' r', (builtin b ats ty consts args').run P w = .ok (.value v') w' ∧ Step P r h w r' h' w' ∧ VR r' v v' := by
  have lift : ∀ {s : Sem Value}, Does P r h w s v h' → (builtin b ats ty consts args' = (do pure (.value (← s)) : Sem Next)) → ∃ v' w' r', (builtin b ats ty consts args').run P w = .ok (.value v') w' ∧ Step P r h w r' h' w' ∧ VR r' v v' := by
    rintro s ⟨v', w', r', h1, h2, h3⟩ hb
    exact ⟨v', w', r', by rw [hb, Sem.run_bind, h1]; rfl, h2, h3⟩
  unfold builtA at e0
  split at e0
  · cases e0
  · rename_i t rest hat
    cases args with
    | nil => cases e0
    | cons x args =>
      cases args with
      | nil =>
        obtain ⟨x', rfl, hx⟩ := one_arr ha
        cases b <;> simp only [] at e0 <;> try (cases e0; done)
        · exact lift (capB_sound F hs hat hx e0 ty) rfl
        · exact lift (clearB_sound F hs hat hx e0 ty) rfl
        · exact lift (lenB_sound F hs hat hx e0 ty) rfl
        · exact lift (ssdB_sound hs hx e0 ats ty) rfl
      | cons y args =>
        cases args with
        | cons _ _ => cases e0
        | nil =>
          obtain ⟨x', y', rfl, hx, hy⟩ := two_arr ha
          cases b <;> simp only [] at e0 <;> try (cases e0; done)
          · cases rest with
            | nil => cases e0
            | cons xt rest => exact lift (appA_sound F hs hat hx hy e0 ty) rfl
          · exact lift (copyA_sound F hs hat hx hy e0 ty) rfl
          · exact lift (delB_sound F hs hat hx hy e0 ty) rfl
          · exact lift (maxB_sound hs hx hy e0 ats ty) rfl
          · exact lift (minB_sound hs hx hy e0 ats ty) rfl
          · exact lift (ustrB_sound F hs hat hx hy e0 ty) rfl
end Go.Am
