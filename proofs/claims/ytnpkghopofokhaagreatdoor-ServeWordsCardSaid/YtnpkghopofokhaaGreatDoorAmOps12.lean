/- A part of the abstract machine, or of a proof over it. -/
import Derived.Test.YtnpkghopofokhaaGreatDoorAmOps11
namespace Go.Am
variable {p : Pg} {P : Program} {r : Ren} {h : H} {w : World}

theorem drawn_sim (hs : Sim P r h w) (d : Nat) : Sim P r h { w with drawn := d } := (Step.drew hs d).sim
/-- The run of an append that has taken its arguments in. -/
def appRun (P : Program) (w : World) (zeros : Bool) (e : Nat) (i : TypeInfo) (m : Nat) (x : Value) (base : Option Addr) (n c : Nat) : Result Value :=
  if n + m ≤ c then (fitS zeros e i.size m x base n c).run P w else (growS zeros e i.size i.bytes m x (.slice base n c) n c).run P w
theorem same_trie {vs : T V} {new : List V} {kn n s : Nat} (hkn : kn = 0 + n * s) (hb : ∀ j v, vs.get j = some v → j < kn) : ∀ j v, (vs.puts kn new).get j = some v → (j < n * s ∧ vs.get (0 + j) = some v) ∨ (n * s ≤ j ∧ new[j - n * s]? = some v) := by
  intro j v hv
  rw [T.get_puts] at hv
  rw [Nat.zero_add] at hkn ⊢
  split at hv
  · rename_i hj; right; rw [← hkn]; exact ⟨hj.1, hv⟩
  · left; have := hb j v hv; exact ⟨by omega, hv⟩
theorem row_trie {vs : T V} {old new : List V} {o kn n s : Nat} (hkn : kn = o + n * s) (hold : vs.range o (kn - o) = some old) :
    ∀ j v, (T.lf.puts 0 (old ++ new)).get j = some v → (j < n * s ∧ vs.get (o + j) = some v) ∨ (n * s ≤ j ∧ new[j - n * s]? = some v) := by
  intro j v hv
  rw [T.range_some] at hold
  rw [T.get_puts] at hv
  split at hv
  · rw [Nat.sub_zero] at hv
    by_cases hj : j < n * s
    · left; refine ⟨hj, ?_⟩
      rw [hold.2 j (by omega), ← hv, List.getElem?_append_left (by omega)]
    · right; refine ⟨by omega, ?_⟩
      rw [List.getElem?_append_right (by omega)] at hv
      rw [← hv]; congr 1; omega
  · rw [T.get_lf] at hv; cases hv
theorem moveA_sound (F : Fits p P) (hs : Sim P r h w) {e : Nat} {i : TypeInfo} {z : V} {m n c l o : Nat} {loc : Loc} {x' : Value} {zeros : Bool} {new : List V} {new' : List Value} {v : V} {h' : H}
    (hi : P.info? e = some i) (hz : zeroOf p e = some z) (hzl : z.cells.length = i.size) (hr : r l = some loc) (hcap : o + c * loc.esz = loc.lim)
    (hn : ∀ d, (newS zeros e i.size m x').run P { w with drawn := d } = .ok new'.toArray { w with drawn := d }) (hc : VRs r new new') (hnl : new.length = m * i.size)
    (e0 : moveA e i.size i.bytes (n + m) m l o new h (h.get l) = some (v, h')) :
    (¬ n + m ≤ c → growOk i.bytes (n + m) = true) ∧ ∃ v' w' r', appRun P w zeros e i m x' (some ⟨loc.blk, loc.off + o, none⟩) n c = .ok v' w' ∧ Step P r h w r' h' w' ∧ VR r' v v' := by
  unfold moveA at e0
  split at e0
  · rename_i vs kn e' frz hl
    cases hg : (Nat.beq e e' && Nat.ble 1 i.size) with
    | false => rw [hg] at e0; cases e0
    | true =>
      rw [hg] at e0
      simp only [beq_iff, ble_iff, Bool.and_eq_true, decide_eq_true_eq] at hg
      obtain ⟨rfl, hsz⟩ := hg
      have hsub : n + m - m = n := by omega
      simp only [] at e0
      obtain ⟨hesz, hcle⟩ := open_cap hs hr hl hi rfl hcap
      obtain ⟨-, loc', mo, e1, e2, c0, lo, hi0, -, hR, hlim, -⟩ := hs.obj l _ hl
      rw [hr] at e1; cases e1
      cases hfit : Nat.ble (Nat.add o (Nat.mul (n + m) i.size)) kn with
      | true =>
        rw [hfit] at e0
        simp only [ble_iff, decide_eq_true_eq] at hfit
        replace hfit : o + (n + m) * i.size ≤ kn := hfit
        simp only [] at e0
        have hroom : n + m ≤ c := by
          rw [hesz] at hcap
          have : (n + m) * i.size ≤ c * i.size := by omega
          exact Nat.le_of_mul_le_mul_right this hsz
        have hst : ∃ h1, storeN h l (o + n * i.size) new some = some h1 ∧ v = .sl l o (n + m) none ∧ h' = h1 := by
          have e0' : storeN h l (o + n * i.size) new (fun h => some ((.sl l o (n + m) none : V), h)) = some (v, h') := by rw [← hsub] ; rw [← hsub] at e0; simpa using e0
          cases new with
          | nil =>
            simp only [storeN, Option.some.injEq, Prod.mk.injEq] at e0'
            exact ⟨h, rfl, e0'.1.symm, e0'.2.symm⟩
          | cons a t =>
            rcases storeN_some e0' with ⟨h1, -⟩ | ⟨vs1, n1, el, f1, op, h1, h2, h3, h4, h5⟩
            · cases h1
            · simp only [Option.some.injEq, Prod.mk.injEq] at h5
              obtain ⟨rfl, rfl⟩ := h5
              refine ⟨_, ?_, rfl, rfl⟩
              simp only [storeN, h1, ble_iff, len_eq, h3, h4, T.putsK_eq, H.set_eq]
              rw [show decide ((o + n * i.size).add (a :: t).length ≤ n1) = true from decide_eq_true h2]; rfl
        obtain ⟨h1, hst, rfl, rfl⟩ := hst
        refine ⟨fun hh => absurd hroom hh, ?_⟩
        unfold appRun
        rw [if_pos hroom]
        have hn0 := hn w.drawn
        obtain ⟨w', k1, k2⟩ := fit_does (c := c) (n := n) hs hr hn0 hc hst
        exact ⟨_, w', r, k1, k2, .slo c hr hcap⟩
      | false =>
        rw [hfit] at e0
        simp only [] at e0
        cases hb : (Nat.beq (Nat.add o (Nat.mul (Nat.sub (n + m) m) i.size)) kn && growOk i.bytes (n + m) && fzOk kn frz && plains new) with
        | false => rw [hb] at e0; cases e0
        | true =>
          rw [hb] at e0
          simp only [beq_iff, Bool.and_eq_true, decide_eq_true_eq] at hb
          obtain ⟨⟨⟨hkn, hgo⟩, hfz⟩, hpl⟩ := hb
          replace hkn : kn = o + n * i.size := by
            have : o + (n + m - m) * i.size = kn := hkn
            rw [hsub] at this; exact this.symm
          simp only [] at e0
          cases o with
          | zero =>
            simp only [T.putsK_eq, forceNat_eq, H.del_eq, H.new_eq, Option.some.injEq, Prod.mk.injEq] at e0
            obtain ⟨rfl, rfl⟩ := e0
            exact ⟨fun _ => hgo, move_does F hs hi hz hzl hr hl hcap hsz hkn hn hc hnl hfz hpl (by rw [len_eq]; show kn + new.length = _; omega) (same_trie hkn fun j v hv => (hR j v hv).1) (fun lo hi hh => by simpa using hh)⟩
          | succ o =>
            simp only [] at e0
            split at e0
            · rename_i old hold
              simp only [H.del_eq, newRow_eq, Option.some.injEq, Prod.mk.injEq] at e0
              obtain ⟨rfl, rfl⟩ := e0
              have hlen : old.length = n * i.size := by
                have := (T.range_some _ _ _ _).1 hold; rw [this.1]; show kn - (o + 1) = _; omega
              exact ⟨fun _ => hgo, move_does F hs hi hz hzl hr hl hcap hsz hkn hn hc hnl hfz hpl (by rw [List.length_append, hlen]) (row_trie hkn hold) (fun lo hi hh => hh)⟩
            · cases e0
  · cases e0
theorem fit_nothing {zeros : Bool} {e size : Nat} {x' : Value} {base : Option Addr} {n c : Nat} (hn : (newS zeros e size 0 x').run P w = .ok #[] w) : (fitS zeros e size 0 x' base n c).run P w = .ok (.slice base n c) w := by
  unfold fitS
  simp only [Sem.run_bind, hn, Result.andThen_ok]
  cases base <;> simp [storeCells]
theorem appS_sound (F : Fits p P) (hs : Sim P r h w) {e : Nat} {i : TypeInfo} {z : V} {m : Nat} {s : V} {s' x' : Value} {zeros : Bool} {new : List V} {new' : List Value} {v : V} {h' : H} (hsv : VR r s s')
    (hi : P.info? e = some i) (hz : zeroOf p e = some z) (hzl : z.cells.length = i.size)
    (hn : ∀ d, (newS zeros e i.size m x').run P { w with drawn := d } = .ok new'.toArray { w with drawn := d }) (hc : VRs r new new') (hnl : new.length = m * i.size)
    (e0 : appS e i.size i.bytes m s new h = some (v, h')) :
    ∃ base n c, s' = .slice base n c ∧ (¬ n + m ≤ c → n + m ≤ 1099511627776 ∧ Builtin.nextslicecap (n + m) c * i.bytes ≤ 281474976710656) ∧
      ∃ v' w' r', appRun P w zeros e i m x' base n c = .ok v' w' ∧ Step P r h w r' h' w' ∧ VR r' v v' := by
  have hgb : ∀ {n c : Nat}, growOk i.bytes (n + m) = true → ¬ n + m ≤ c → n + m ≤ 1099511627776 ∧ Builtin.nextslicecap (n + m) c * i.bytes ≤ 281474976710656 := fun {n c} hg hn => by
    obtain ⟨h1, h2⟩ := growOk_iff hg
    have h3 := nextslicecap_le (n := n + m) (c := c) (by omega)
    exact ⟨h1, Nat.le_trans (Nat.mul_le_mul_right _ h3) h2⟩
  have hnil : m = 0 → new' = [] := fun hm => by
    have := hc.length; rw [hnl, hm, Nat.zero_mul] at this; exact List.length_eq_zero_iff.1 this.symm
  cases hsv with
  | nils =>
    refine ⟨none, 0, 0, rfl, ?_⟩
    cases m with
    | zero =>
      simp only [appS, Option.some.injEq, Prod.mk.injEq] at e0
      obtain ⟨rfl, rfl⟩ := e0
      refine ⟨fun hh => absurd (Nat.le_refl 0) hh, _, w, r, ?_, Step.refl hs, .nils⟩
      unfold appRun
      rw [if_pos (Nat.le_refl 0)]
      have h0 := hn w.drawn
      rw [hnil rfl] at h0
      exact fit_nothing h0
    | succ m =>
      simp only [appS] at e0
      obtain ⟨hg, rfl, rfl⟩ := growA_some e0
      refine ⟨hgb (by rw [Nat.zero_add]; exact hg), ?_⟩
      unfold appRun
      rw [if_neg (by omega)]
      have := growA_does (p := p) (P := P) (r := r) (h := h) (w := w) (sLen := 0) (sCap := 0) (s' := .slice none 0 0) (old := []) (new := new') (cs := new) F hs hi hz hzl (fun d => by simp [Builtin.firstCells]) hn (by simpa using hc)
        (by simp only [List.nil_append]; rw [← hc.length, hnl, Nat.zero_add])
      rw [Nat.zero_add] at this
      exact this
  | sl0 a c =>
    cases m with
    | succ m => simp [appS] at e0
    | zero =>
      simp only [appS, Option.some.injEq, Prod.mk.injEq] at e0
      obtain ⟨rfl, rfl⟩ := e0
      refine ⟨some a, 0, c, rfl, fun hh => absurd (Nat.zero_le _) hh, _, w, r, ?_, Step.refl hs, .sl0 a c⟩
      unfold appRun
      rw [if_pos (Nat.zero_le _)]
      have h0 := hn w.drawn
      rw [hnil rfl] at h0
      exact fit_nothing h0
  | sl hr =>
    rename_i l o n c loc
    refine ⟨_, n, c, rfl, ?_⟩
    simp only [appS, forceNat_eq] at e0
    cases hfit : Nat.ble (Nat.add n m) c with
    | true =>
      rw [hfit] at e0
      simp only [ble_iff, decide_eq_true_eq] at hfit
      replace hfit : n + m ≤ c := hfit
      refine ⟨fun hh => absurd hfit hh, ?_⟩
      simp only [] at e0
      have hst : ∃ h1, storeN h l (o + n * i.size) new some = some h1 ∧ v = .sl l o (n + m) (some c) ∧ h' = h1 := by
        cases new with
        | nil =>
          simp only [storeN, Option.some.injEq, Prod.mk.injEq] at e0
          exact ⟨h, rfl, e0.1.symm, e0.2.symm⟩
        | cons a t =>
          rcases storeN_some e0 with ⟨h1, -⟩ | ⟨vs1, n1, el, f1, op, h1, h2, h3, h4, h5⟩
          · cases h1
          · simp only [Option.some.injEq, Prod.mk.injEq] at h5
            obtain ⟨rfl, rfl⟩ := h5
            refine ⟨_, ?_, rfl, rfl⟩
            replace h2 : o + n * i.size + (a :: t).length ≤ n1 := h2
            replace h3 : fzOk (o + n * i.size) f1 = true := h3
            simp only [storeN, h1, ble_iff, len_eq, h3, h4, T.putsK_eq, H.set_eq]
            rw [show decide ((o + n * i.size).add (a :: t).length ≤ n1) = true from decide_eq_true h2]; rfl
      obtain ⟨h1, hst, rfl, rfl⟩ := hst
      unfold appRun
      rw [if_pos hfit]
      have hn0 := hn w.drawn
      obtain ⟨w', k1, k2⟩ := fit_does (c := c) (n := n) hs hr hn0 hc hst
      exact ⟨_, w', r, k1, k2, .sl hr⟩
    | false =>
      rw [hfit] at e0
      simp only [ble_iff, decide_eq_false_iff_not] at hfit
      replace hfit : ¬ n + m ≤ c := hfit
      simp only [] at e0
      split at e0
      · cases e0
      · rename_i old hold
        obtain ⟨hg, rfl, rfl⟩ := growA_some e0
        refine ⟨fun _ => hgb hg hfit, ?_⟩
        unfold appRun
        rw [if_neg hfit]
        obtain ⟨old', h1, h2, h3⟩ := run_loadNd hs hr hold
        replace h3 : old'.length = n * i.size := h3
        exact growA_does (p := p) (P := P) (r := r) (h := h) (w := w) (sLen := n) (sCap := c) (s' := .slice (some ⟨loc.blk, loc.off + o, none⟩) n c) (old := old') (new := new') (cs := old ++ new) F hs hi hz hzl h1 hn (h2.append hc)
          (by rw [List.length_append, h3, ← hc.length, hnl, Nat.add_mul])
  | slo c hr hcap =>
    rename_i l o n loc
    refine ⟨_, n, c, rfl, ?_⟩
    simp only [appS, forceNat_eq] at e0
    obtain ⟨h1, h2⟩ := moveA_sound F hs hi hz hzl hr hcap hn hc hnl e0
    exact ⟨fun hh => hgb (h1 hh) hh, h2⟩
  | _ => simp [appS] at e0
theorem appA_sound (F : Fits p P) (hs : Sim P r h w) {st xt : Nat} {s x v : V} {s' x' : Value} {h' : H} {ats : Array TypeId} {rest : List TypeId} (hat : ats.toList = st :: xt :: rest) (hsv : VR r s s') (hx : VR r x x') (e0 : appA p st xt s x h = some (v, h')) (ty : Nat) :
    Does P r h w (Builtin.append_ ats ty #[s', x']) v h' := by
  unfold appA at e0
  split at e0
  · rename_i e hu
    split at e0
    · rename_i i z u hi hz hux
      have hI := F.ty e i hi
      unfold appI at e0
      cases hzl : Nat.beq (len z.cells) i.size with
      | false => rw [hzl] at e0; cases e0
      | true =>
        rw [hzl] at e0
        simp only [beq_iff, len_eq, decide_eq_true_eq] at hzl
        simp only [] at e0
        cases hc : cntA i.bytes x (isIntD u) with
        | none => rw [hc] at e0; cases e0
        | some m =>
          rw [hc] at e0
          simp only [] at e0
          cases hn : newA i.size m z x h (isIntD u) with
          | none => rw [hn] at e0; cases e0
          | some new =>
            rw [hn] at e0
            simp only [] at e0
            obtain ⟨new', k1, k2⟩ := newA_sound F hs hI hz hzl hx hc hn
            obtain ⟨base, n, c, rfl, h1, v', w', r', h2, h3, h4⟩ := appS_sound F hs hsv hI hz hzl k1 k2 (newA_length hzl hc hn) e0
            refine ⟨v', w', r', ?_, h3, h4⟩
            rw [← h2]
            refine run_append hat (und_sound F hu) hI (und_sound F hux) (fun hb => ?_) (fun hb w => ?_) h1 ty w
            · rw [hb] at hc
              simp only [cntA] at hc
              cases hnat : natOf x with
              | none => rw [hnat] at hc; cases hc
              | some m1 =>
                rw [hnat] at hc
                simp only [] at hc
                cases hg : growOk i.bytes m1 with
                | false => rw [hg] at hc; cases hc
                | true =>
                  rw [hg] at hc
                  simp only [Option.some.injEq] at hc
                  subst hc
                  obtain ⟨g1, g2⟩ := growOk_iff hg
                  refine ⟨natOf_sound hx hnat, g1, Nat.le_trans (Nat.mul_le_mul_right _ (by omega)) g2⟩
            · rw [hb] at hc
              exact lenA_sound hx hc w
    · cases e0
  · cases e0
end Go.Am
