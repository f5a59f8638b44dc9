/- A part of the abstract machine, or of a proof over it. -/
import Derived.Test.YtnpkghopofokhaaGreatDoorAmOps1
import Derived.Laws.StructEq
namespace Go.Am
variable {p : Pg} {P : Program} {r : Ren} {h : H} {w : World}

theorem map_toNat_inj (a b : List UInt8) : (a.map UInt8.toNat = b.map UInt8.toNat) ↔ a = b := by
  constructor
  · intro e
    induction a generalizing b with
    | nil => cases b with
      | nil => rfl
      | cons y b => simp at e
    | cons x a ih => cases b with
      | nil => simp at e
      | cons y b =>
        simp only [List.map_cons, List.cons.injEq] at e
        rw [ih b e.2, UInt8.toNat_inj.1 e.1]
  · rintro rfl; rfl
theorem bytes_eq_iff (a b : ByteArray) : (a == b) = decide (a.data.toList.map UInt8.toNat = b.data.toList.map UInt8.toNat) := by
  rw [beq_toListBytes, ByteArray.toList_eq, ByteArray.toList_eq]
  rw [Bool.eq_iff_iff, decide_eq_true_iff, map_toNat_inj]
  simp
theorem memN_iff (t : Nat) (l : List Nat) : memN t l = true ↔ t ∈ l := by
  induction l with
  | nil => simp [memN]
  | cons a l ih =>
    simp only [memN, List.mem_cons, beq_iff]
    by_cases e : a = t
    · subst e; simp
    · simp only [decide_eq_false e]; rw [ih]; constructor
      · exact .inr
      · rintro (h | h)
        · exact absurd h.symm e
        · exact h

theorem run_sameAddr_same (b o o' : Nat) (w : World) : (sameAddr ⟨b, o, none⟩ ⟨b, o', none⟩).run P w = .ok (decide (o = o')) w := by
  simp only [sameAddr, beq_self_eq_true, if_true]
  show Result.ok _ _ = _
  congr 1
  rw [Bool.eq_iff_iff, decide_eq_true_iff]; simp
theorem clean_sound (hs : Sim P r h w) {l : Nat} {loc : Loc} (hr : r l = some loc) (hc : clean h l = true) :
    h.get l ≠ none ∧ ∃ c e, w.heap[loc.blk]? = some (.cells c e (0, 0)) ∧ c.size ≠ 0 := by
  unfold clean at hc
  cases hl : h.get l with
  | none => rw [hl] at hc; cases hc
  | some ob =>
    rw [hl] at hc
    refine ⟨by simp, ?_⟩
    cases ob with
    | cells vs n elem frz opn =>
      cases frz with
      | no =>
        cases n with
        | zero => cases hc
        | succ n =>
          obtain ⟨-, loc', m, e1, e2, c, lo, hi, rfl, hR, hlim, hsz, hop, hfz, hel⟩ := hs.obj l _ hl
          rw [hr] at e1; cases e1
          obtain ⟨rfl, rfl⟩ := hfz
          exact ⟨c, elem, e2, by omega⟩
      | _ => cases hc
    | _ => cases hc
theorem run_sameAddr_apart (hs : Sim P r h w) {a b i j : Nat} {la lb : Loc} (ha : r a = some la) (hb : r b = some lb) (hab : a ≠ b) (ca : clean h a = true) (cb : clean h b = true) :
    (sameAddr ⟨la.blk, la.off + i, none⟩ ⟨lb.blk, lb.off + j, none⟩).run P w = .ok false w := by
  obtain ⟨na, c1, e1, h1, s1⟩ := clean_sound hs ha ca
  obtain ⟨nb, c2, e2, h2, s2⟩ := clean_sound hs hb cb
  have hne : la.blk ≠ lb.blk := fun e => hab (hs.inj a b la lb na nb ha hb e)
  have f1 : ∀ o, w.frozen? ⟨la.blk, o, none⟩ = false := fun o => by simp [World.frozen?, h1]
  have f2 : ∀ o, w.frozen? ⟨lb.blk, o, none⟩ = false := fun o => by simp [World.frozen?, h2]
  have g1 : w.shape? la.blk = some (e1, c1.size) := by simp [World.shape?, h1]
  have g2 : w.shape? lb.blk = some (e2, c2.size) := by simp [World.shape?, h2]
  simp [sameAddr, hne, f1, f2, noView, viewAt, mayBeOne, stringish, g1, g2]

theorem eqFields_sound (F : Fits p P) {eq : Nat → V → V → Option Bool} {xs ys : List V} {xs' ys' : Array Value} {d : Nat} {w : World} (hx : VRs r xs xs'.toList) (hy : VRs r ys ys'.toList)
    (heq : ∀ t a b v a' b', eq t a b = some v → VR r a a' → VR r b b' → (Op.equalIn d t a' b').run P w = .ok v w) :
    ∀ (fs : List Field) (v : Bool), (∀ f ∈ fs, f.name ≠ "_") → eqFields p eq xs ys fs = some v → (Op.eqFields d xs' ys' fs).run P w = .ok v w
  | [], v, _, e => by simp only [eqFields, Option.some.injEq] at e; subst e; rfl
  | f :: fs, v, hn, e => by
    simp only [eqFields] at e
    cases h1 : part p f.type xs f.offset with
    | none => simp [h1] at e
    | some a =>
      cases h2 : part p f.type ys f.offset with
      | none => simp [h1, h2] at e
      | some b =>
        simp only [h1, h2] at e
        obtain ⟨a', k1, k2⟩ := run_part F hx h1 w
        obtain ⟨b', k3, k4⟩ := run_part F hy h2 w
        cases h3 : eq f.type a b with
        | none => simp [h3] at e
        | some c =>
          have k5 := heq _ _ _ _ _ _ h3 k2 k4
          have hf : f.name ≠ "_" := hn f (by simp)
          simp only [h3] at e
          unfold Op.eqFields
          rw [if_pos hf]
          cases c with
          | true =>
            have ih := eqFields_sound F hx hy heq fs v (fun g hg => hn g (by simp [hg])) e
            simp [k1, k3, k5, ih]
          | false =>
            simp only [Option.some.injEq] at e; subst e
            simp [k1, k3, k5]

set_option maxHeartbeats 4000000 in
theorem eqV_sound (F : Fits p P) (hs : Sim P r h w) : ∀ (d : Nat) (t : Nat) (x y : V) (b : Bool), eqV p h d t x y = some b → ∀ (x' y' : Value), VR r x x' → VR r y y' → ∀ D, d ≤ D → (Op.equalIn D t x' y').run P w = .ok b w := by
  intro d
  induction d with
  | zero => intro t x y b e; simp [eqV] at e
  | succ d ih =>
    intro t x y b e x' y' hx hy D hD
    obtain ⟨D, rfl⟩ : ∃ m, D = m + 1 := ⟨D - 1, by omega⟩
    simp only [eqV] at e
    cases hu : und p t with
    | none => rw [hu] at e; cases e
    | some u =>
      rw [hu] at e
      simp only [] at e
      have hru := run_und F hu w
      split at e
      · cases hx; cases hy; simp only [Option.some.injEq] at e; subst e; simp [Op.equalIn, hru]
      · cases hx; cases hy
        rename_i k a k' b'
        rw [kindEq_iff] at e
        by_cases hk : k = k'
        · subst hk; simp only [decide_true, Option.some.injEq, intEq_iff] at e; subst e; simp [Op.equalIn, hru]; rfl
        · simp [hk] at e
      · cases hx; cases hy; simp only [Option.some.injEq] at e; subst e
        rw [bytesEq_iff]
        simp [Op.equalIn, hru]; exact bytes_eq_iff _ _
      · cases hx; cases hy; simp only [Option.some.injEq] at e; subst e; simp [Op.equalIn, hru]
      · cases hx; cases hy; simp only [Option.some.injEq] at e; subst e; simp [Op.equalIn, hru]
      · cases hx; cases hy; simp only [Option.some.injEq] at e; subst e; simp [Op.equalIn, hru]
      · rename_i elem a i b' j
        cases hz : szOf p elem with
        | none => rw [hz] at e; cases e
        | some s =>
          rw [hz] at e
          cases s with
          | zero => cases e
          | succ s =>
            simp only [beq_iff] at e
            cases hx with | ptr ha => cases hy with | ptr hb =>
            rename_i la lb
            have hsz := run_sz F hz w
            by_cases hab : a = b'
            · subst hab
              rw [ha] at hb; cases hb
              simp only [decide_true, Option.some.injEq] at e; subst e
              simp only [Op.equalIn, Sem.run_bind, hru, Result.andThen_ok, hsz, Sem.run_ite]
              rw [if_pos (by omega), run_sameAddr_same]
              congr 1
              rw [Bool.eq_iff_iff, decide_eq_true_iff, decide_eq_true_iff]; omega
            · simp only [hab, decide_false] at e
              cases hc : (clean h a && clean h b') with
              | false => rw [hc] at e; cases e
              | true =>
                rw [hc] at e; simp only [Option.some.injEq] at e; subst e
                rw [Bool.and_eq_true] at hc
                simp only [Op.equalIn, Sem.run_bind, hru, Result.andThen_ok, hsz, Sem.run_ite]
                rw [if_pos (by omega), run_sameAddr_apart hs ha hb hab hc.1 hc.2]
      · cases hx; cases hy; simp only [Option.some.injEq] at e; subst e; simp [Op.equalIn, hru]
      · cases hx; cases hy; simp only [Option.some.injEq] at e; subst e; simp [Op.equalIn, hru]
      · cases hx; cases hy; simp only [Option.some.injEq] at e; subst e; simp [Op.equalIn, hru]
      · rename_i ms tx vx ty vy
        cases hx with | iface hvx => cases hy with | iface hvy =>
        simp only [beq_iff] at e
        by_cases htt : tx = ty
        · subst htt
          simp only [decide_true] at e
          cases hi : p.ty.get tx with
          | none => rw [hi] at e; cases e
          | some i =>
            rw [hi] at e
            simp only [] at e
            cases hcmp : i.comparable with
            | false => rw [hcmp] at e; cases e
            | true =>
              rw [hcmp] at e
              have := ih tx vx vy b e _ _ hvx hvy D (by omega)
              have hinfo := run_info (F.ty tx i hi) w
              simp only [Op.equalIn, Sem.run_bind, hru, Result.andThen_ok, Sem.run_ite, ne_eq, not_true_eq_false, if_false, hinfo, hcmp, Bool.not_true, Bool.false_eq_true, this]
        · simp only [decide_eq_false htt, Option.some.injEq] at e; subst e
          simp [Op.equalIn, hru, htt]
      · rename_i fields xs ys
        cases hm : memN t p.cmp with
        | false => rw [hm] at e; cases e
        | true =>
          rw [hm] at e
          simp only [] at e
          obtain ⟨hst, fs', hfs, hff⟩ := F.cmp t ((memN_iff _ _).1 hm)
          have hpu := und_sound F hu
          rw [hfs] at hpu; cases hpu
          cases hx with | agg hxs => cases hy with | agg hys =>
          have hfo : P.fieldsOf t = fields := by unfold Program.fieldsOf; rw [hfs]
          rw [run_equalIn_struct w D t _ _ (by rw [hfo]; exact hfs) hst, hfo]
          refine eqFields_sound F hxs hys (fun t a b v a' b' e' h1 h2 => ih t a b v e' a' b' h1 h2 D (by omega)) fields.toList b (fun f hf => ?_) e
          obtain ⟨i, hi⟩ := List.getElem?_of_mem hf
          exact (hff i f (by simpa using hi)).1
      · cases hx; cases hy; simp only [Option.some.injEq] at e; subst e; simp [Op.equalIn, hru]
      · cases hx; cases hy <;> (simp only [Option.some.injEq] at e; subst e; simp [Op.equalIn, hru])
      · cases hy; cases hx <;> (simp only [Option.some.injEq] at e; subst e; simp [Op.equalIn, hru])
      · cases hx; cases hy; simp only [Option.some.injEq] at e; subst e; simp [Op.equalIn, hru]
      · cases hx; cases hy; simp only [Option.some.injEq] at e; subst e; simp [Op.equalIn, hru]
      · cases hx; cases hy; simp only [Option.some.injEq] at e; subst e; simp [Op.equalIn, hru]
      · cases hx; cases hy; simp only [Option.some.injEq] at e; subst e; simp [Op.equalIn, hru]
      · cases hx; cases hy; simp only [Option.some.injEq] at e; subst e; simp [Op.equalIn, hru]
      · cases hx; cases hy; simp only [Option.some.injEq] at e; subst e; simp [Op.equalIn, hru]
      · cases hx <;> cases hy <;> (simp only [Option.some.injEq] at e; subst e; simp [Op.equalIn, hru])
      · cases hx <;> cases hy <;> (simp only [Option.some.injEq] at e; subst e; simp [Op.equalIn, hru])
      · cases e
end Go.Am
