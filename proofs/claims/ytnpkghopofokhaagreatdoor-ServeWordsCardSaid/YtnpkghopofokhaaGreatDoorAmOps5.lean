/- A part of the abstract machine, or of a proof over it. -/
import Derived.Test.YtnpkghopofokhaaGreatDoorAmOps4
namespace Go.Am
variable {p : Pg} {P : Program} {r : Ren} {h : H} {w : World}

theorem natOf_sound {v : V} {v' : Value} {n : Nat} (hv : VR r v v') (e : natOf v = some n) : ∃ k, v' = .int k n := by
  cases hv <;> simp only [natOf] at e <;> try (cases e; done)
  rename_i k m
  cases m with
  | ofNat m => simp only [Option.some.injEq] at e; subst e; exact ⟨k, rfl⟩
  | negSucc m => cases e
/-- An operand that may be left out. -/
inductive OptR (r : Ren) : Option V → Option Value → Prop
  | none : OptR r none none
  | some {v : V} {v' : Value} (h : VR r v v') : OptR r (some v) (some v')
theorem run_sliceBound {v : V} {v' : Value} {n y : Nat} {code : BoundsCode} (hv : VR r v v') (e : natOf v = some n) (hn : n ≤ y) (w : World) : (Instr.sliceBound v' y code).run P w = .ok n w := by
  obtain ⟨k, rfl⟩ := natOf_sound hv e
  simp [Instr.sliceBound, asIntOf, hn]
theorem bound_some {v : Option V} {d y n : Nat} (e : bound v d y = some n) : (v = none ∧ n = d) ∨ ∃ u, v = some u ∧ natOf u = some n ∧ n ≤ y := by
  cases v with
  | none => simp only [bound, Option.some.injEq] at e; exact .inl ⟨rfl, e.symm⟩
  | some u =>
    simp only [bound] at e
    cases hu : natOf u with
    | none => rw [hu] at e; cases e
    | some m =>
      rw [hu] at e
      simp only [ble_iff] at e
      by_cases hm : m ≤ y
      · rw [decide_eq_true hm] at e; simp only [Option.some.injEq] at e; subst e; exact .inr ⟨u, rfl, hu, hm⟩
      · rw [decide_eq_false hm] at e; cases e
theorem boundsA_some {n c : Nat} {lo hi mx : Option V} {ll hh m : Nat} (e : boundsA n c lo hi mx = some (ll, hh, m)) :
    bound mx c c = some m ∧ bound hi n m = some hh ∧ bound lo 0 hh = some ll ∧ ¬ (mx.isSome = true ∧ hi = none) := by
  unfold boundsA at e
  split at e
  · cases e
  · rename_i h0
    cases h1 : bound mx c c with
    | none => rw [h1] at e; cases e
    | some m' =>
      rw [h1] at e; simp only [] at e
      cases h2 : bound hi n m' with
      | none => rw [h2] at e; cases e
      | some hh' =>
        rw [h2] at e; simp only [] at e
        cases h3 : bound lo 0 hh' with
        | none => rw [h3] at e; cases e
        | some ll' =>
          rw [h3] at e; simp only [Option.some.injEq, Prod.mk.injEq] at e
          obtain ⟨rfl, rfl, rfl⟩ := e
          refine ⟨rfl, h2, h3, fun ⟨a, b⟩ => ?_⟩
          cases mx with
          | none => cases a
          | some x => exact h0 x rfl b
/-- The model's max. -/
def capR (mx : Option V) (c m : Nat) : Nat := match mx with
  | none => c
  | some _ => m
/-- The model's bounds, where its capacity c' is c at least, and c itself where no max is told. -/
theorem run_sliceBounds {isS : Bool} {n c c' : Nat} {lo hi mx : Option V} {lo' hi' mx' : Option Value} {ll hh m : Nat} (hlo : OptR r lo lo') (hhi : OptR r hi hi') (hmx : OptR r mx mx')
    (e : boundsA n c lo hi mx = some (ll, hh, m)) (hc : c ≤ c') (w : World) :
    (Instr.sliceBounds isS n c' lo' hi' mx').run P w = .ok (ll, hh, capR mx c' m) w ∧ (hi = none → hh = n) ∧ (hi ≠ none → hh ≤ m) ∧ (lo = none → ll = 0) ∧ (lo ≠ none → ll ≤ hh) ∧ m ≤ c := by
  obtain ⟨h1, h2, h3, h4⟩ := boundsA_some e
  have hm : m ≤ c := by rcases bound_some h1 with ⟨-, rfl⟩ | ⟨u, -, -, hu⟩ <;> omega
  refine ⟨?_, fun hn => ?_, fun hn => ?_, fun hn => ?_, fun hn => ?_, hm⟩
  · unfold Instr.sliceBounds
    cases hmx with
    | none =>
      have hm' : m = c := by rcases bound_some h1 with ⟨-, rfl⟩ | ⟨u, hu, -, -⟩; rfl; cases hu
      subst hm'
      cases hhi with
      | none =>
        have : hh = n := by rcases bound_some h2 with ⟨-, rfl⟩ | ⟨u, hu, -, -⟩; rfl; cases hu
        subst this
        cases hlo with
        | none =>
          have : ll = 0 := by rcases bound_some h3 with ⟨-, rfl⟩ | ⟨u, hu, -, -⟩; rfl; cases hu
          subst this; simp [capR]
        | some hv =>
          rcases bound_some h3 with ⟨hu, -⟩ | ⟨u, hu, hn, hle⟩
          · cases hu
          · cases hu; simp [capR, run_sliceBound hv hn hle]
      | some hv =>
        rcases bound_some h2 with ⟨hu, -⟩ | ⟨u, hu, hn, hle⟩
        · cases hu
        · cases hu
          have k1 := run_sliceBound (P := P) (code := if isS = true then BoundsCode.sliceAcap else BoundsCode.sliceAlen) hv hn (Nat.le_trans hle hc) w
          cases hlo with
          | none =>
            have : ll = 0 := by rcases bound_some h3 with ⟨-, rfl⟩ | ⟨u, hu, -, -⟩; rfl; cases hu
            subst this; simp [capR, k1]
          | some hv' =>
            rcases bound_some h3 with ⟨hu, -⟩ | ⟨u, hu, hn', hle'⟩
            · cases hu
            · cases hu; simp [capR, k1, run_sliceBound hv' hn' hle']
    | some hvm =>
      rcases bound_some h1 with ⟨hu, -⟩ | ⟨u, hu, hnm, hlem⟩
      · cases hu
      · cases hu
        have k0 := run_sliceBound (P := P) (code := if isS = true then BoundsCode.slice3Acap else BoundsCode.slice3Alen) hvm hnm (Nat.le_trans hlem hc) w
        cases hhi with
        | none => exact absurd ⟨rfl, rfl⟩ h4
        | some hv =>
          rcases bound_some h2 with ⟨hu, -⟩ | ⟨u, hu, hn, hle⟩
          · cases hu
          · cases hu
            have k1 := run_sliceBound (P := P) (code := BoundsCode.slice3B) hv hn hle w
            cases hlo with
            | none =>
              have : ll = 0 := by rcases bound_some h3 with ⟨-, rfl⟩ | ⟨u, hu, -, -⟩; rfl; cases hu
              subst this; simp [capR, k0, k1]
            | some hv' =>
              rcases bound_some h3 with ⟨hu, -⟩ | ⟨u, hu, hn', hle'⟩
              · cases hu
              · cases hu; simp [capR, k0, k1, run_sliceBound hv' hn' hle']
  · subst hn; rcases bound_some h2 with ⟨-, rfl⟩ | ⟨u, hu, -, -⟩; rfl; cases hu
  · rcases bound_some h2 with ⟨hu, -⟩ | ⟨u, -, -, hle⟩
    · exact absurd hu hn
    · exact hle
  · subst hn; rcases bound_some h3 with ⟨-, rfl⟩ | ⟨u, hu, -, -⟩; rfl; cases hu
  · rcases bound_some h3 with ⟨hu, -⟩ | ⟨u, -, -, hle⟩
    · exact absurd hu hn
    · exact hle
theorem sliceE_sound {l o size : Nat} {loc : Loc} {b : Option (Nat × Nat × Nat)} {v : V} (hr : r l = some loc) (e : sliceE l o size b = some v) :
    ∃ ll hh m, b = some (ll, hh, m) ∧ VR r v (.slice (some (if m = ll then (⟨loc.blk, loc.off + o, none⟩ : Addr) else (⟨loc.blk, loc.off + o, none⟩ : Addr).add (ll * size))) (hh - ll) (m - ll)) := by
  cases b with
  | none => cases e
  | some x =>
    obtain ⟨ll, hh, m⟩ := x
    refine ⟨ll, hh, m, rfl, ?_⟩
    simp only [sliceE, forceNat_eq, beq_iff] at e
    by_cases hm : m = ll
    · rw [decide_eq_true hm] at e; simp only [Option.some.injEq] at e; subst e
      rw [if_pos hm]; exact .sl hr
    · rw [decide_eq_false hm] at e; simp only [Option.some.injEq] at e; subst e
      rw [if_neg hm, Addr.add_none, Nat.add_assoc]; exact .sl hr
theorem openK_some {e size o kc : Nat} {ob : Option Obj} (hk : openK e size o ob = some kc) : ∃ vs kn frz, ob = some (.cells vs kn e frz true) ∧ kc = (kn - o) / size := by
  cases ob with
  | none => cases hk
  | some ob =>
    cases ob with
    | cells vs kn e' frz opn =>
      cases opn with
      | false => cases hk
      | true =>
        simp only [openK, beq_iff] at hk
        by_cases he : e = e'
        · subst he; simp only [decide_true, Option.some.injEq] at hk; exact ⟨vs, kn, frz, rfl, hk.symm⟩
        · simp [he] at hk
    | _ => cases hk
theorem open_cap (hs : Sim P r h w) {l o e size kn c : Nat} {vs : T V} {frz : Fz} {loc : Loc} {i : TypeInfo} (hr : r l = some loc) (hl : h.get l = some (.cells vs kn e frz true)) (hi : P.info? e = some i) (hz : i.size = size)
    (hc : o + c * loc.esz = loc.lim) : loc.esz = size ∧ (kn - o) / size ≤ c := by
  obtain ⟨-, loc', m, e1, e2, c0, lo, hi', rfl, hR, hlim, hsz, hop, hfz, hel⟩ := hs.obj l _ hl
  rw [hr] at e1; cases e1
  obtain ⟨j, hj, hje⟩ := hel rfl
  rw [hi] at hj; cases hj
  have he : loc.esz = size := by rw [← hje, hz]
  refine ⟨he, ?_⟩
  rw [he] at hc
  have : kn - o ≤ c * size := by omega
  exact Nat.div_le_of_le_mul (by rw [Nat.mul_comm]; exact this)
theorem run_sliceAt_slice (F : Fits p P) {t e size n c ll hh m : Nat} {a : Option Addr} {lo' hi' mx' : Option Value} (hu : und p t = some (.slice e)) (hz : szOf p e = some size)
    (hb : (Instr.sliceBounds true n c lo' hi' mx').run P w = .ok (ll, hh, m) w) :
    (Instr.sliceAt t (.slice a n c) lo' hi' mx').run P w = .ok (.slice (if m = ll then a else a.map (·.add (ll * size))) (hh - ll) (m - ll)) w := by
  simp [Instr.sliceAt, run_und F hu, Instr.slice, hb, run_sz F hz]
theorem sliceS_sound (F : Fits p P) (hs : Sim P r h w) {t e size : Nat} {x v : V} {x' : Value} {lo hi mx : Option V} {lo' hi' mx' : Option Value} (hx : VR r x x') (hlo : OptR r lo lo') (hhi : OptR r hi hi') (hmx : OptR r mx mx')
    (hu : und p t = some (.slice e)) (hz : szOf p e = some size) (e0 : sliceS size e x lo hi mx h = some v) : ∃ v', (Instr.sliceAt t x' lo' hi' mx').run P w = .ok v' w ∧ VR r v v' := by
  cases hx with
  | nils =>
    simp only [sliceS] at e0
    cases hb : boundsA 0 0 lo hi mx with
    | none => rw [hb] at e0; cases e0
    | some b =>
      obtain ⟨ll, hh, m⟩ := b
      rw [hb] at e0; simp only [someV, Option.some.injEq] at e0; subst e0
      obtain ⟨k1, k2, k3, k4, k5, k6⟩ := run_sliceBounds (P := P) (isS := true) hlo hhi hmx hb (Nat.le_refl 0) w
      have hm : m = 0 := by omega
      have hh0 : hh = 0 := by
        by_cases hn : hi = none
        · exact k2 hn
        · have := k3 hn; omega
      refine ⟨_, run_sliceAt_slice F hu hz k1, ?_⟩
      have hmm : capR mx 0 m = 0 := by cases mx <;> simp [capR, hm]
      rw [hmm, hh0]
      simp only [Option.map_none, ite_self, Nat.zero_sub]
      exact .nils
  | sl hr =>
    simp only [sliceS] at e0
    rename_i l o n c loc
    obtain ⟨ll, hh, m, hb, hv⟩ := sliceE_sound hr e0
    obtain ⟨k1, k2, k3, k4, k5, k6⟩ := run_sliceBounds (P := P) (isS := true) hlo hhi hmx hb (Nat.le_refl c) w
    have hmm : capR mx c m = m := by
      cases mx with
      | none => obtain ⟨h1, -⟩ := boundsA_some hb; simp only [bound, Option.some.injEq] at h1; simpa [capR] using h1
      | some x => rfl
    rw [hmm] at k1
    refine ⟨_, run_sliceAt_slice F hu hz k1, ?_⟩
    have : (if m = ll then some (⟨loc.blk, loc.off + o, none⟩ : Addr) else (some (⟨loc.blk, loc.off + o, none⟩ : Addr)).map (·.add (ll * size))) = some (if m = ll then (⟨loc.blk, loc.off + o, none⟩ : Addr) else (⟨loc.blk, loc.off + o, none⟩ : Addr).add (ll * size)) := by
      by_cases hm : m = ll <;> simp [hm]
    rw [this]; exact hv
  | slo c hr hc =>
    rename_i l o n loc
    cases size with
    | zero => cases e0
    | succ sz =>
      replace e0 : sliceOpen l o n (sz + 1) lo hi mx (openK e (sz + 1) o (h.get l)) = some v := e0
      cases hk : openK e (sz + 1) o (h.get l) with
      | none => rw [hk] at e0; cases e0
      | some kc =>
        rw [hk] at e0
        obtain ⟨vs, kn, frz, hl, rfl⟩ := openK_some hk
        obtain ⟨i, hi', hiz⟩ := szOf_sound F hz
        obtain ⟨hes, hkc⟩ := open_cap hs hr hl hi' hiz hc
        cases hmx with
        | none =>
          simp only [sliceOpen] at e0
          cases hb : boundsA n ((kn - o) / (sz + 1)) lo hi none with
          | none => rw [hb] at e0; cases e0
          | some b =>
            obtain ⟨ll, hh, m⟩ := b
            rw [hb] at e0
            obtain ⟨k1, k2, k3, k4, k5, k6⟩ := run_sliceBounds (P := P) (isS := true) hlo hhi .none hb hkc w
            have hrun := run_sliceAt_slice F (m := c) (a := some ⟨loc.blk, loc.off + o, none⟩) hu hz k1
            simp only [sliceO, forceNat_eq, blt_iff, beq_iff] at e0
            by_cases hlk : ll < (kn - o) / (sz + 1)
            · rw [decide_eq_true hlk] at e0
              simp only [Option.some.injEq] at e0; subst e0
              refine ⟨_, hrun, ?_⟩
              simp only [Option.map_some]
              have hlc : ll < c := Nat.lt_of_lt_of_le hlk hkc
              rw [if_neg (show ¬ c = ll by omega), Addr.add_none, Nat.add_assoc]
              refine .slo _ hr ?_
              rw [hes] at hc ⊢
              have : c = ll + (c - ll) := by omega
              rw [← hc]
              conv => rhs; rw [this, Nat.add_mul]
              show o + ll * (sz + 1) + _ = _
              omega
            · rw [decide_eq_false hlk] at e0
              by_cases hhl : hh = ll
              · rw [decide_eq_true hhl] at e0
                simp only [Option.some.injEq] at e0; subst e0
                refine ⟨_, hrun, ?_⟩
                subst hhl
                rw [Nat.sub_self]
                by_cases hcl : c = hh
                · simp only [hcl, if_true]; exact .sl0 _ _
                · simp only [hcl, if_false, Option.map_some]; exact .sl0 _ _
              · rw [decide_eq_false hhl] at e0; cases e0
        | some hvm =>
          simp only [sliceOpen] at e0
          obtain ⟨ll, hh, m, hb, hv⟩ := sliceE_sound hr e0
          obtain ⟨k1, k2, k3, k4, k5, k6⟩ := run_sliceBounds (P := P) (isS := true) hlo hhi (.some hvm) hb hkc w
          refine ⟨_, run_sliceAt_slice F (m := m) hu hz k1, ?_⟩
          have : (if m = ll then some (⟨loc.blk, loc.off + o, none⟩ : Addr) else (some (⟨loc.blk, loc.off + o, none⟩ : Addr)).map (·.add (ll * (sz + 1)))) = some (if m = ll then (⟨loc.blk, loc.off + o, none⟩ : Addr) else (⟨loc.blk, loc.off + o, none⟩ : Addr).add (ll * (sz + 1))) := by
            by_cases hm : m = ll <;> simp [hm]
          rw [this]; exact hv
  | sl0 a c =>
    simp only [sliceS] at e0
    cases hmx with
    | some _ => cases e0
    | none =>
      simp only [] at e0
      cases hb : boundsA 0 0 lo hi none with
      | none => rw [hb] at e0; cases e0
      | some b =>
        obtain ⟨ll, hh, m⟩ := b
        rw [hb] at e0; simp only [someV, Option.some.injEq] at e0; subst e0
        obtain ⟨k1, k2, k3, k4, k5, k6⟩ := run_sliceBounds (P := P) (isS := true) hlo hhi .none hb (Nat.zero_le c) w
        have hh0 : hh = 0 := by
          by_cases hn : hi = none
          · exact k2 hn
          · have := k3 hn; omega
        have hl0 : ll = 0 := by
          by_cases hn : lo = none
          · exact k4 hn
          · have := k5 hn; omega
        have hrun := run_sliceAt_slice F (m := c) (a := some a) hu hz k1
        refine ⟨_, hrun, ?_⟩
        subst hh0; subst hl0
        by_cases hc0 : c = 0
        · simp only [hc0, if_true]; exact .sl0 _ _
        · simp only [hc0, if_false, Option.map_some]; exact .sl0 _ _
  | _ => cases e0
theorem sliceA_sound (F : Fits p P) (hs : Sim P r h w) {t : Nat} {x v : V} {x' : Value} {lo hi mx : Option V} {lo' hi' mx' : Option Value} (hx : VR r x x') (hlo : OptR r lo lo') (hhi : OptR r hi hi') (hmx : OptR r mx mx')
    (e0 : sliceA p t x lo hi mx h = some v) : ∃ v', (Instr.sliceAt t x' lo' hi' mx').run P w = .ok v' w ∧ VR r v v' := by
  unfold sliceA at e0
  cases hu : und p t with
  | none => rw [hu] at e0; cases e0
  | some u =>
    rw [hu] at e0
    cases u <;> (try simp only [] at e0) <;> try (cases e0; done)
    case string =>
      cases hx <;> try (cases e0; done)
      rename_i s
      cases hmx with
      | some _ => cases e0
      | none =>
        simp only [forceNat_eq, len_eq] at e0
        cases hb : boundsA (s.data.toList.map UInt8.toNat).length (s.data.toList.map UInt8.toNat).length lo hi none with
        | none => rw [hb] at e0; cases e0
        | some b =>
          obtain ⟨ll, hh, m⟩ := b
          rw [hb] at e0
          simp only [sliceStr, forceL_eq, takeL_eq, dropL_eq, Option.some.injEq] at e0; subst e0
          have hsz : (s.data.toList.map UInt8.toNat).length = s.size := by rw [List.length_map, Array.length_toList]; rfl
          rw [hsz] at hb
          obtain ⟨k1, k2, k3, k4, k5, k6⟩ := run_sliceBounds (P := P) (isS := false) hlo hhi .none hb (Nat.le_refl _) w
          refine ⟨.string (s.extract ll hh), by simp [Instr.sliceAt, run_und F hu, Instr.slice, k1], ?_⟩
          have hx : ((s.data.toList.map UInt8.toNat).drop ll).take (hh - ll) = (s.extract ll hh).data.toList.map UInt8.toNat := by
            rw [ByteArray.data_extract, Array.toList_extract, List.extract_eq_drop_take', List.map_drop, List.map_take]
            rw [List.drop_take]
          show VR r (.str (((s.data.toList.map UInt8.toNat).drop ll).take (hh - ll))) _
          rw [hx]; exact .str _
    case array n e =>
      cases hx <;> try (cases e0; done)
      rename_i l o loc hr
      cases hz : szOf p e with
      | none => rw [hz] at e0; cases e0
      | some size =>
        rw [hz] at e0
        simp only [] at e0
        obtain ⟨ll, hh, m, hb, hv⟩ := sliceE_sound hr e0
        obtain ⟨k1, k2, k3, k4, k5, k6⟩ := run_sliceBounds (P := P) (isS := false) hlo hhi hmx hb (Nat.le_refl n) w
        have hmm : capR mx n m = m := by
          cases mx with
          | none => obtain ⟨h1, -⟩ := boundsA_some hb; simp only [bound, Option.some.injEq] at h1; simpa [capR] using h1
          | some x => rfl
        rw [hmm] at k1
        exact ⟨_, by simp [Instr.sliceAt, run_und F hu, Instr.sureAddr, k1, run_sz F hz], hv⟩
    case slice e =>
      cases hz : szOf p e with
      | none => rw [hz] at e0; cases e0
      | some size => rw [hz] at e0; exact sliceS_sound F hs hx hlo hhi hmx hu hz e0
theorem idxAddr_sound (F : Fits p P) {t : Nat} {x i v : V} {x' i' : Value} (hx : VR r x x') (hi : VR r i i') (e0 : idxAddr p t x i = some v) :
    ∃ v', (Instr.indexAt t x' i').run P w = .ok v' w ∧ VR r v v' := by
  unfold idxAddr at e0
  cases hn : natOf i with
  | none => rw [hn] at e0; cases e0
  | some n =>
    rw [hn] at e0
    simp only [] at e0
    obtain ⟨k, rfl⟩ := natOf_sound hi hn
    cases hu : und p t with
    | none => rw [hu] at e0; cases e0
    | some u =>
      rw [hu] at e0
      have hru := run_und F hu w
      cases u <;> (try simp only [] at e0) <;> try (cases e0; done)
      case array m e =>
        cases hx <;> try (cases e0; done)
        rename_i l o loc hr
        simp only [blt_iff] at e0
        cases hz : szOf p e with
        | none => rw [hz] at e0; by_cases hlt : n < m <;> simp [hlt] at e0
        | some s =>
          rw [hz] at e0
          by_cases hlt : n < m
          · simp only [hlt, decide_true, forceNat_eq, Option.some.injEq] at e0; subst e0
            refine ⟨.pointer (some ⟨loc.blk, loc.off + o + n * s, none⟩), ?_, ?_⟩
            · simp [Instr.indexAt, asIntOf, hru, Instr.sureAddr, hlt, run_sz F hz, Addr.add_none]
            · rw [Nat.add_assoc]; exact .ptr hr
          · simp [hlt] at e0
      case slice e =>
        have key : ∀ (l o len : Nat) (loc : Loc) (c : Nat), r l = some loc → (match Nat.blt n len, szOf p e with | true, some s => forceNat (o + n * s) fun o => some (V.ptr l o) | _, _ => none) = some v →
            ∃ v', (Instr.indexAt t (.slice (some ⟨loc.blk, loc.off + o, none⟩) len c) (.int k n)).run P w = .ok v' w ∧ VR r v v' := by
          intro l o len loc c hr e1
          simp only [blt_iff] at e1
          cases hz : szOf p e with
          | none => rw [hz] at e1; by_cases hlt : n < len <;> simp [hlt] at e1
          | some s =>
            rw [hz] at e1
            by_cases hlt : n < len
            · simp only [hlt, decide_true, forceNat_eq, Option.some.injEq] at e1; subst e1
              refine ⟨.pointer (some ⟨loc.blk, loc.off + o + n * s, none⟩), ?_, ?_⟩
              · simp [Instr.indexAt, asIntOf, hru, hlt, run_sz F hz, Addr.add_none]
              · rw [Nat.add_assoc]; exact .ptr hr
            · simp [hlt] at e1
        cases hx with
        | sl hr => exact key _ _ _ _ _ hr e0
        | slo c hr hc => exact key _ _ _ _ _ hr e0
        | _ => cases e0
theorem indexA_sound (F : Fits p P) {t : Nat} {x i v : V} {x' i' : Value} (hx : VR r x x') (hi : VR r i i') (e0 : indexA p t x i = some v) :
    ∃ v', (Instr.index t x' i').run P w = .ok v' w ∧ VR r v v' := by
  unfold indexA at e0
  cases hn : natOf i with
  | none => rw [hn] at e0; cases e0
  | some n =>
    rw [hn] at e0
    simp only [] at e0
    obtain ⟨k, rfl⟩ := natOf_sound hi hn
    cases hu : und p t with
    | none => rw [hu] at e0; cases e0
    | some u =>
      rw [hu] at e0
      have hru := run_und F hu w
      cases u <;> (try simp only [] at e0) <;> try (cases e0; done)
      case array m e =>
        cases hx <;> try (cases e0; done)
        rename_i cs cs' hc
        simp only [blt_iff] at e0
        cases hz : szOf p e with
        | none => rw [hz] at e0; by_cases hlt : n < m <;> simp [hlt] at e0
        | some s =>
          rw [hz] at e0
          by_cases hlt : n < m
          · simp only [hlt, decide_true] at e0
            obtain ⟨v', k1, k2⟩ := run_part F hc e0 w
            exact ⟨v', by simp [Instr.index, asIntOf, hru, hlt, run_sz F hz, k1], k2⟩
          · simp [hlt] at e0
      case string =>
        cases hx <;> try (cases e0; done)
        rename_i s
        simp only [nth_eq, List.getElem?_map] at e0
        cases hg : s.data.toList[n]? with
        | none => rw [hg] at e0; cases e0
        | some b =>
          rw [hg] at e0
          simp only [Option.map_some, Option.some.injEq] at e0; subst e0
          refine ⟨.int .u8 b.toNat, ?_, .int _ _⟩
          have hlt : n < s.size := by
            have := (List.getElem?_eq_some_iff.1 hg).1
            rw [Array.length_toList] at this; exact this
          have hget : s[n]? = some b := by
            rw [getElem?_pos s n hlt]
            rw [Array.getElem?_toList] at hg
            have := Array.getElem?_eq_some_iff.1 hg
            obtain ⟨h1, h2⟩ := this
            congr 1
          simp [Instr.index, asIntOf, hru, hget]
end Go.Am
