/- A part of the abstract machine, or of a proof over it. -/
import Derived.Test.YtnpkghopofokhaaGreatDoorAmRange
namespace Go.Am
variable {p : Pg} {P : Program} {r : Ren} {h : H} {w : World}

/-! ### Regions that draw their order: what stands in the text -/
def Cl (S : Nat → Prop) (o : Oper) : Prop := ∀ e ∈ o.after.toList, bindsA e = true → S e.on
theorem mask_in {S : Nat → Prop} {acc : List Nat} : ∀ (es : List Edge) (m : Nat), (∀ k, m.testBit k = true → S k) → (∀ e ∈ es, bindsA e = true → S e.on ∧ ∀ k, (nthD acc e.on).testBit k = true → S k) → ∀ k, (maskOf acc es m).testBit k = true → S k
  | [], _, h0, _ => h0
  | e :: es, m, h0, h1 => by
    simp only [maskOf]
    cases hb : bindsA e with
    | false => exact mask_in es m h0 fun x hx => h1 x (by simp [hx])
    | true =>
      refine mask_in es _ (fun k hk => ?_) fun x hx => h1 x (by simp [hx])
      obtain ⟨a, b⟩ := h1 e (by simp) hb
      have hk' : ((m ||| 2 ^ e.on) ||| nthD acc e.on).testBit k = true := hk
      rw [Nat.testBit_or, Nat.testBit_or, Nat.testBit_two_pow] at hk'
      simp only [Bool.or_eq_true, decide_eq_true_eq] at hk'
      rcases hk' with (hk' | rfl) | hk'
      · exact h0 k hk'
      · exact a
      · exact b k hk'
theorem backs_spec {i : Nat} : ∀ (es : List Edge), backs i es = true → ∀ e ∈ es, bindsA e = true → e.on < i
  | [], _, e, he, _ => by cases he
  | x :: es, hb, e, he, hbe => by
    simp only [backs] at hb
    rcases List.mem_cons.1 he with rfl | he
    · rw [hbe] at hb; simp only [Bool.and_eq_true, blt_iff, decide_eq_true_eq] at hb; exact hb.1
    · refine backs_spec es ?_ e he hbe
      cases hx : bindsA x with
      | true => rw [hx] at hb; simp only [Bool.and_eq_true] at hb; exact hb.2
      | false => rw [hx] at hb; exact hb
theorem nthD_append {a : List Nat} {m i : Nat} : nthD (a ++ [m]) i = if i < a.length then nthD a i else if i = a.length then m else 0 := by
  unfold nthD
  rw [nth_eq, nth_eq]
  by_cases h1 : i < a.length
  · rw [if_pos h1, List.getElem?_append_left h1]
  · rw [if_neg h1, List.getElem?_append_right (by omega)]
    by_cases h2 : i = a.length
    · subst h2; simp
    · rw [if_neg h2]
      have : i - a.length ≠ 0 := by omega
      cases hh : i - a.length with
      | zero => omega
      | succ n => simp
theorem nthD_ge {a : List Nat} {i : Nat} (h : a.length ≤ i) : nthD a i = 0 := by
  unfold nthD
  rw [nth_eq, List.getElem?_eq_none h]
theorem ancs_in {S : Nat → Prop} {all : List Oper} (hS : ∀ k o, all[k]? = some o → S k → Cl S o) : ∀ (os : List Oper) (acc : List Nat), all.drop acc.length = os → backsAll os acc.length = true →
    (∀ i o, all[i]? = some o → Cl S o → ∀ k, (nthD acc i).testBit k = true → S k) → ∀ i o, all[i]? = some o → Cl S o → ∀ k, (nthD (ancs os acc) i).testBit k = true → S k
  | [], _, _, _, h => h
  | o :: os, acc, hd, hb, h => by
    simp only [ancs, forceNat_eq]
    simp only [backsAll, Bool.and_eq_true] at hb
    have ho : all[acc.length]? = some o := by
      have := congrArg (·[0]?) hd
      simpa using this
    refine ancs_in hS os (acc ++ [maskOf acc o.after.toList 0]) ?_ (by simpa using hb.2) fun i o' hi hc k hk => ?_
    · have := congrArg (List.drop 1) hd
      simpa [List.drop_drop, Nat.add_comm] using this
    · rw [nthD_append] at hk
      by_cases h1 : i < acc.length
      · rw [if_pos h1] at hk; exact h i o' hi hc k hk
      · rw [if_neg h1] at hk
        by_cases h2 : i = acc.length
        · rw [if_pos h2] at hk
          subst h2
          rw [ho] at hi; cases hi
          refine mask_in o.after.toList 0 (fun k hk => by simp at hk) (fun e he hbe => ⟨hc e he hbe, fun k hk => ?_⟩) k hk
          have hlt := backs_spec _ hb.1 e he hbe
          have hall : acc.length < all.length := (List.getElem?_eq_some_iff.1 ho).1
          exact h e.on (all[e.on]'(by omega)) (by simp) (hS e.on _ (by simp) (hc e he hbe)) k hk
        · rw [if_neg h2] at hk; simp at hk

theorem effIdx_append (a b : List Oper) (i : Nat) : effIdx p (a ++ b) i = effIdx p a i ++ effIdx p b (i + a.length) := by
  induction a generalizing i with
  | nil => rfl
  | cons o a ih =>
    simp only [List.cons_append, effIdx, ih, List.length_cons]
    have : i.succ + a.length = i + (a.length + 1) := by omega
    rw [this]
    cases isEff p o.op <;> simp
theorem effIdx_mem : ∀ (a : List Oper) (i e : Nat), e ∈ effIdx p a i → i ≤ e ∧ ∃ o, a[e - i]? = some o ∧ isEff p o.op = true
  | [], _, _, h => by cases h
  | o :: a, i, e, h => by
    simp only [effIdx] at h
    have rest : e ∈ effIdx p a i.succ → i ≤ e ∧ ∃ o', (o :: a)[e - i]? = some o' ∧ isEff p o'.op = true := by
      intro h
      obtain ⟨h1, o', h2, h3⟩ := effIdx_mem a _ e h
      refine ⟨by omega, o', ?_, h3⟩
      have : e - i = (e - i.succ) + 1 := by omega
      rw [this, List.getElem?_cons_succ]; exact h2
    cases ho : isEff p o.op with
    | true =>
      rw [ho] at h
      rcases List.mem_cons.1 h with rfl | h
      · exact ⟨Nat.le_refl _, o, by simp, ho⟩
      · exact rest h
    | false => rw [ho] at h; exact rest h
noncomputable def rank (p : Pg) (ops : List Oper) (i : Nat) : Nat := (effIdx p (ops.take i) 0).length
theorem rank_succ {ops : List Oper} {i : Nat} {o : Oper} (ho : ops[i]? = some o) : rank p ops (i + 1) = rank p ops i + if isEff p o.op = true then 1 else 0 := by
  unfold rank
  rw [List.take_add_one, ho, effIdx_append, List.length_append]
  congr 1
  simp only [Option.toList_some, effIdx]
  cases isEff p o.op <;> simp
theorem effIdx_split {ops : List Oper} {i : Nat} {o : Oper} (ho : ops[i]? = some o) : effIdx p ops 0 = effIdx p (ops.take i) 0 ++ effIdx p (o :: ops.drop (i + 1)) i := by
  have hlt := (List.getElem?_eq_some_iff.1 ho).1
  have h1 : ops = ops.take i ++ o :: ops.drop (i + 1) := by
    have h2 : o = ops[i] := by rw [List.getElem?_eq_getElem hlt] at ho; exact (Option.some.inj ho).symm
    rw [h2, ← List.drop_eq_getElem_cons hlt, List.take_append_drop]
  conv => lhs; rw [h1]
  rw [effIdx_append, List.length_take, Nat.min_eq_left (Nat.le_of_lt hlt), Nat.zero_add]
theorem es_rank {ops : List Oper} {i : Nat} {o : Oper} (ho : ops[i]? = some o) (he : isEff p o.op = true) : (effIdx p ops 0)[rank p ops i]? = some i := by
  unfold rank
  rw [effIdx_split ho, List.getElem?_append_right (Nat.le_refl _), Nat.sub_self]
  simp only [effIdx, he]
  rfl
theorem es_mem {ops : List Oper} {e : Nat} (h : e ∈ effIdx p ops 0) : ∃ o, ops[e]? = some o ∧ isEff p o.op = true := by
  obtain ⟨-, o, h1, h2⟩ := effIdx_mem _ _ _ h
  exact ⟨o, by simpa using h1, h2⟩
theorem es_lt {ops : List Oper} {k k' e e' : Nat} (hk : (effIdx p ops 0)[k]? = some e) (hk' : (effIdx p ops 0)[k']? = some e') (hlt : k < k') : e < e' := by
  obtain ⟨o, ho, hee⟩ := es_mem (List.mem_of_getElem? hk')
  have hpos : k' = rank p ops e' ∨ k' < rank p ops e' ∨ rank p ops e' < k' := by omega
  have low : ∀ {x f : Nat}, (effIdx p ops 0)[x]? = some f → x < rank p ops e' → f < e' := by
    intro x f hx hxl
    rw [effIdx_split ho, List.getElem?_append_left hxl] at hx
    obtain ⟨-, o2, h2, -⟩ := effIdx_mem _ _ _ (List.mem_of_getElem? hx)
    have := (List.getElem?_eq_some_iff.1 h2).1
    rw [List.length_take] at this
    omega
  rcases hpos with h1 | h1 | h1
  · exact low hk (by omega)
  · exact absurd (low hk' h1) (Nat.lt_irrefl _)
  · exfalso
    rw [effIdx_split ho, List.getElem?_append_right (by unfold rank at h1; omega)] at hk'
    have hx : effIdx p (o :: ops.drop (e' + 1)) e' = e' :: effIdx p (ops.drop (e' + 1)) e'.succ := by simp only [effIdx, hee]
    rw [hx] at hk'
    have hne : k' - (effIdx p (ops.take e') 0).length = (k' - (effIdx p (ops.take e') 0).length - 1) + 1 := by unfold rank at h1; omega
    rw [hne, List.getElem?_cons_succ] at hk'
    have := (effIdx_mem _ _ _ (List.mem_of_getElem? hk')).1
    omega
theorem es_inj {ops : List Oper} {k k' e : Nat} (hk : (effIdx p ops 0)[k]? = some e) (hk' : (effIdx p ops 0)[k']? = some e) : k = k' := by
  rcases Nat.lt_trichotomy k k' with h | h | h
  · exact absurd (es_lt hk hk' h) (Nat.lt_irrefl _)
  · exact h
  · exact absurd (es_lt hk' hk h) (Nat.lt_irrefl _)
theorem rank_len {ops : List Oper} : rank p ops ops.length = (effIdx p ops 0).length := by unfold rank; rw [List.take_length]

theorem allIn_spec {m : Nat} : ∀ (l : List Nat), allIn m l = true → ∀ e ∈ l, m.testBit e = true
  | [], _, e, h => by cases h
  | a :: l, hh, e, h => by
    simp only [allIn] at hh
    cases ha : m.testBit a with
    | false => rw [ha] at hh; cases hh
    | true =>
      rw [ha] at hh
      rcases List.mem_cons.1 h with rfl | h
      · exact ha
      · exact allIn_spec l hh e h
theorem fltIdx_mem : ∀ (a : List Oper) (i e : Nat), e ∈ fltIdx a i ↔ i ≤ e ∧ ∃ o, a[e - i]? = some o ∧ isFlt o.op = true
  | [], _, _ => by simp [fltIdx]
  | o :: a, i, e => by
    simp only [fltIdx]
    have rest : e ∈ fltIdx a i.succ ↔ i.succ ≤ e ∧ ∃ o', (o :: a)[e - i]? = some o' ∧ isFlt o'.op = true := by
      rw [fltIdx_mem a i.succ e]
      constructor
      · rintro ⟨h1, o', h2, h3⟩
        refine ⟨h1, o', ?_, h3⟩
        have : e - i = (e - i.succ) + 1 := by omega
        rw [this, List.getElem?_cons_succ]; exact h2
      · rintro ⟨h1, o', h2, h3⟩
        refine ⟨h1, o', ?_, h3⟩
        have : e - i = (e - i.succ) + 1 := by omega
        rw [this, List.getElem?_cons_succ] at h2; exact h2
    cases ho : isFlt o.op with
    | true =>
      simp only []
      rw [List.mem_cons, rest]
      constructor
      · rintro (rfl | ⟨h1, h2⟩)
        · exact ⟨Nat.le_refl _, o, by simp, ho⟩
        · exact ⟨by omega, h2⟩
      · rintro ⟨h1, h2⟩
        rcases Nat.eq_or_lt_of_le h1 with h3 | h3
        · exact .inl h3.symm
        · exact .inr ⟨h3, h2⟩
    | false =>
      simp only []
      rw [rest]
      constructor
      · rintro ⟨h1, h2⟩; exact ⟨by omega, h2⟩
      · rintro ⟨h1, o', h2, h3⟩
        rcases Nat.eq_or_lt_of_le h1 with h4 | h4
        · subst h4; simp at h2; subst h2; rw [ho] at h3; cases h3
        · exact ⟨h4, o', h2, h3⟩
theorem chain_spec {as fs : List Nat} : ∀ (l before : List Nat), chain as fs before l = true → ∀ (k e : Nat), l[k]? = some e → e ∉ fs → (∀ x ∈ before, (nthD as e).testBit x = true) ∧ ∀ (k' e' : Nat), k' < k → l[k']? = some e' → (nthD as e).testBit e' = true
  | [], _, _, k, e, hk, _ => by simp at hk
  | a :: l, before, hh, k, e, hk, hf => by
    simp only [chain, Bool.and_eq_true] at hh
    cases k with
    | zero =>
      simp only [List.getElem?_cons_zero, Option.some.injEq] at hk; subst hk
      have hm : memN a fs = false := by
        cases hm : memN a fs with
        | false => rfl
        | true => exact absurd ((memN_iff _ _).1 hm) hf
      rw [hm] at hh
      exact ⟨allIn_spec _ hh.1, fun k' e' hk' => by omega⟩
    | succ k =>
      rw [List.getElem?_cons_succ] at hk
      obtain ⟨h1, h2⟩ := chain_spec l (a :: before) hh.2 k e hk hf
      refine ⟨fun x hx => h1 x (by simp [hx]), fun k' e' hlt hk' => ?_⟩
      cases k' with
      | zero => simp only [List.getElem?_cons_zero, Option.some.injEq] at hk'; subst hk'; exact h1 a (by simp)
      | succ k' => rw [List.getElem?_cons_succ] at hk'; exact h2 k' e' (by omega) hk'
theorem upTo_mem {f : Nat} : ∀ (l : List Nat), (∀ k k' e e' : Nat, l[k]? = some e → l[k']? = some e' → k < k' → e < e') → ∀ e ∈ l, e < f → e ∈ upTo f l
  | [], _, e, h, _ => by cases h
  | a :: l, hs, e, h, hf => by
    have ha : a ≤ e := by
      rcases List.mem_cons.1 h with rfl | h
      · exact Nat.le_refl _
      · obtain ⟨k, hk, hk'⟩ := List.getElem_of_mem h
        exact Nat.le_of_lt (hs 0 (k + 1) a e (by simp) (by rw [List.getElem?_cons_succ, List.getElem?_eq_getElem hk, hk']) (by omega))
    simp only [upTo, blt_iff, decide_eq_true (show a < f by omega)]
    rcases List.mem_cons.1 h with rfl | h
    · simp
    · refine List.mem_cons_of_mem _ (upTo_mem l (fun k k' e e' h1 h2 h3 => hs (k + 1) (k' + 1) e e' (by simpa using h1) (by simpa using h2) (by omega)) e h hf)
theorem fltIn_spec {m : Nat} {es : List Nat} : ∀ (fs : List Nat), fltIn m es fs = true → ∀ f ∈ fs, m.testBit f = true → ∀ e ∈ upTo f es, m.testBit e = true
  | [], _, f, h, _ => by cases h
  | a :: fs, hh, f, h, hf => by
    simp only [fltIn, Bool.and_eq_true] at hh
    rcases List.mem_cons.1 h with rfl | h
    · rw [hf] at hh; exact allIn_spec _ hh.1
    · exact fltIn_spec fs hh.2 f h hf
theorem fltOk_spec {es fs : List Nat} : ∀ (as : List Nat), fltOk es fs as = true → ∀ i, ∀ f ∈ fs, (nthD as i).testBit f = true → ∀ e ∈ upTo f es, (nthD as i).testBit e = true
  | [], _, i, f, _, h => by rw [nthD_ge (by simp)] at h; simp at h
  | m :: as, hh, i, f, hf, h => by
    simp only [fltOk, Bool.and_eq_true] at hh
    cases i with
    | zero => exact fltIn_spec fs hh.1 f hf h
    | succ i => exact fltOk_spec as hh.2 i f hf h
def Meets (all : List Oper) (o q : Oper) : Prop := (∃ d, o.dst = some d ∧ d ∈ namesOf all q) ∨ ∃ d, q.dst = some d ∧ d ∈ namesOf all o
theorem meets_iff (d : Option Nat) (l : List Nat) : meets d l = true ↔ ∃ x, d = some x ∧ x ∈ l := by
  cases d with
  | none => simp [meets]
  | some x => simp [meets, memN_iff]
theorem apartFrom_spec {all : List Oper} {as : List Nat} {i : Nat} {o : Oper} : ∀ (l : List Oper) (j : Nat), apartFrom all as i o l j = true → ∀ k q, l[k]? = some q → Meets all o q → (nthD as (j + k)).testBit i = true
  | [], _, _, k, q, hk, _ => by simp at hk
  | a :: l, j, hh, k, q, hk, hm => by
    simp only [apartFrom, Bool.and_eq_true] at hh
    cases k with
    | zero =>
      simp only [List.getElem?_cons_zero, Option.some.injEq] at hk; subst hk
      have : (meets o.dst (namesOf all a) || meets a.dst (namesOf all o)) = true := by
        rw [Bool.or_eq_true, meets_iff, meets_iff]
        exact hm
      rw [this] at hh
      exact hh.1
    | succ k =>
      rw [List.getElem?_cons_succ] at hk
      have := apartFrom_spec l j.succ hh.2 k q hk hm
      rwa [show j.succ + k = j + (k + 1) from by omega] at this
theorem apartAll_spec {all : List Oper} {as : List Nat} : ∀ (l : List Oper) (i : Nat), apartAll all as l i = true → ∀ k k' o q, k < k' → l[k]? = some o → l[k']? = some q → Meets all o q → (nthD as (i + k')).testBit (i + k) = true
  | [], _, _, k, _, o, _, _, hk, _, _ => by simp at hk
  | a :: l, i, hh, k, k', o, q, hlt, hk, hk', hm => by
    simp only [apartAll, Bool.and_eq_true] at hh
    cases k' with
    | zero => omega
    | succ k' =>
      rw [List.getElem?_cons_succ] at hk'
      cases k with
      | zero =>
        simp only [List.getElem?_cons_zero, Option.some.injEq] at hk; subst hk
        have := apartFrom_spec l i.succ hh.1 k' q hk' hm
        rwa [show i.succ + k' = i + (k' + 1) from by omega] at this
      | succ k =>
        rw [List.getElem?_cons_succ] at hk
        have := apartAll_spec l i.succ hh.2 k k' o q (by omega) hk hk' hm
        rwa [show i.succ + k' = i + (k' + 1) from by omega, show i.succ + k = i + (k + 1) from by omega] at this
theorem countLo_spec {a : Nat} : ∀ (es : List Nat) (k e : Nat), k < countLo a es → es[k]? = some e → a.testBit e = true
  | [], k, e, _, h => by simp at h
  | x :: es, k, e, hk, h => by
    cases hx : a.testBit x with
    | false =>
      have h2 : countLo a (x :: es) = 0 := by simp only [countLo, hx]
      omega
    | true =>
      have h2 : countLo a (x :: es) = countLo a es + 1 := by simp only [countLo, hx]
      rw [h2] at hk
      cases k with
      | zero => simp only [List.getElem?_cons_zero, Option.some.injEq] at h; subst h; exact hx
      | succ k => rw [List.getElem?_cons_succ] at h; exact countLo_spec es k e (by omega) h
theorem countLo_le {a : Nat} : ∀ (es : List Nat), countLo a es ≤ es.length
  | [] => Nat.le_refl _
  | x :: es => by
    simp only [countLo, List.length_cons]
    have := countLo_le (a := a) es
    cases a.testBit x <;> simp only <;> omega
theorem countHi_spec {as : List Nat} {i : Nat} : ∀ (es : List Nat) (e : Nat), es[countHi as i es]? = some e → (nthD as e).testBit i = true
  | [], e, h => by simp at h
  | x :: es, e, h => by
    cases hx : (nthD as x).testBit i with
    | true =>
      have h2 : countHi as i (x :: es) = 0 := by simp only [countHi, hx]
      rw [h2] at h; simp only [List.getElem?_cons_zero, Option.some.injEq] at h; subst h; exact hx
    | false =>
      have h2 : countHi as i (x :: es) = countHi as i es + 1 := by simp only [countHi, hx]
      rw [h2] at h; simp only [List.getElem?_cons_succ] at h; exact countHi_spec es e h
theorem planOf_get {as es : List Nat} : ∀ (l : List Oper) (i k : Nat) (o : Oper), l[k]? = some o → (planOf p as es l i)[k]? = some ⟨o, isEff p o.op, isFlt o.op, countLo (nthD as (i + k)) es, countHi as (i + k) es⟩
  | [], _, k, o, h => by simp at h
  | a :: l, i, k, o, h => by
    simp only [planOf, forceNat_eq]
    cases k with
    | zero => simp only [List.getElem?_cons_zero, Option.some.injEq] at h ⊢; subst h; rfl
    | succ k =>
      rw [List.getElem?_cons_succ] at h ⊢
      rw [planOf_get l i.succ k o h, show i.succ + k = i + (k + 1) from by omega]
theorem planOf_length {as es : List Nat} : ∀ (l : List Oper) (i : Nat), (planOf p as es l i).length = l.length
  | [], _ => rfl
  | a :: l, i => by simp only [planOf, forceNat_eq, List.length_cons, planOf_length l]

/-! ### What only reads does not turn the heap -/
theorem exV_h {o : Option V} {v : V} {h' : H} (e : exV o h = some (v, h')) : h' = h := (exV_some e).2
theorem pure_heap {cal : Cal} {env : T V} {op : Op} {v : V} {h' : H} (he : isEff p op = false) (e : execA op p cal env h = some (v, h')) : h' = h := by
  cases op <;> simp only [isEff] at he <;> try (cases he; done)
  all_goals simp only [execA] at e
  case move x => simp only [xMove, opk_eq, ret1, Option.some.injEq, Prod.mk.injEq] at e; exact e.2.symm
  case assign x => simp only [xMove, opk_eq, ret1, Option.some.injEq, Prod.mk.injEq] at e; exact e.2.symm
  case pick c x y =>
    simp only [xPick, opk_eq] at e
    cases hc : opd env c <;> rw [hc] at e <;> simp only [pickV] at e <;> try (cases e; done)
    rename_i b
    cases b <;> (simp only [ret1, Option.some.injEq, Prod.mk.injEq] at e; exact e.2.symm)
  case build t ps =>
    simp only [xBuild] at e
    split at e
    · rw [parts_eq'] at e
      unfold buildR at e
      split at e
      · split at e
        · unfold aggR at e
          split at e
          · simp only [Option.some.injEq, Prod.mk.injEq] at e; exact e.2.symm
          · cases e
        · cases e
      · split at e
        · unfold aggR at e
          split at e
          · simp only [Option.some.injEq, Prod.mk.injEq] at e; exact e.2.symm
          · cases e
        · cases e
      · cases e
    · cases e
  case load t x => simp only [xLoad, opk_eq] at e; exact exV_h e
  case nilCheck x =>
    simp only [xNil, opk_eq] at e
    cases hc : opd env x <;> rw [hc] at e <;> simp only [nilV] at e <;> try (cases e; done)
    all_goals first
      | (simp only [Option.some.injEq, Prod.mk.injEq] at e; exact e.2.symm)
      | (split at e <;> first | (cases e; done) | (simp only [Option.some.injEq, Prod.mk.injEq] at e; exact e.2.symm))
  case binOp op t x y pos =>
    simp only [xBin, opk_eq] at e
    split at e
    · exact exV_h e
    · cases e
  case unOp op t x => simp only [xUn, opk_eq] at e; exact exV_h e
  case convert s d x =>
    simp only [xConv, opk_eq] at e
    unfold convA wrapI at e
    simp only [forceInt_eq, forceB_eq, forceNat_eq] at e
    split at e
    case h_4 hd _ => rw [hd] at he; cases he
    all_goals (repeat' split at e)
    all_goals first
      | (cases e; done)
      | (simp only [Option.some.injEq, Prod.mk.injEq] at e; exact e.2.symm)
  case makeInterface t x =>
    simp only [xIface, opk_eq] at e
    unfold ifaceR at e
    split at e
    · cases e
    · simp only [Option.some.injEq, Prod.mk.injEq] at e; exact e.2.symm
    · cases e
  case makeFunc fn as bs =>
    simp only [xFunc] at e
    split at e
    · simp only [opks_eq, Option.some.injEq, Prod.mk.injEq] at e; exact e.2.symm
    · cases e
  case slice t x lo hi mx => simp only [xSlice, opk_eq, opkO_eq] at e; exact exV_h e
  case fieldAddr t x f =>
    simp only [xFieldAddr] at e
    split at e
    · simp only [opk_eq] at e
      unfold faR at e
      split at e
      · split at e
        · simp only [forceNat_eq, Option.some.injEq, Prod.mk.injEq] at e; exact e.2.symm
        · cases e
      · cases e
    · cases e
  case field t x f =>
    simp only [xField] at e
    split at e
    · simp only [opk_eq] at e
      unfold fR at e
      split at e
      · exact exV_h e
      · cases e
    · cases e
  case indexAddr t x i => simp only [xIdxAddr, opk_eq] at e; exact exV_h e
  case index t x i => simp only [xIndex, opk_eq] at e; exact exV_h e
  case lookup t x k ok => simp only [xLookup, opk_eq] at e; exact exV_h e
  case extract x i =>
    simp only [xExtract, opk_eq] at e
    cases hc : opd env x <;> rw [hc] at e <;> simp only [extR] at e <;> try (cases e; done)
    exact exV_h e
  case call c =>
    obtain ⟨callee, args, ats⟩ := c
    cases callee <;> simp only [isEffC] at he <;> try (cases he; done)
    rename_i b
    simp only [xCall, calleeX, callB, opks_eq] at e
    unfold builtA at e
    cases b <;> simp only [isEffB] at he <;> try (cases he; done)
    all_goals (repeat' split at e)
    all_goals first
      | (cases e; done)
      | contradiction
      | skip
    all_goals (first | unfold lenB at e | unfold capB at e | unfold minB at e | unfold maxB at e | unfold ssdB at e | skip)
    all_goals (try simp only [forceNat_eq] at e)
    all_goals (repeat' split at e)
    all_goals first
      | (cases e; done)
      | (simp only [Option.some.injEq, Prod.mk.injEq] at e; exact e.2.symm)
end Go.Am
