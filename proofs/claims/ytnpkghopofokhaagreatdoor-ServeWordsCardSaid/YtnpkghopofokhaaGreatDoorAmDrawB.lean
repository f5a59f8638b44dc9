/- A part of the abstract machine, or of a proof over it. -/
import Derived.Test.YtnpkghopofokhaaGreatDoorAmDrawA
namespace Go.Am
variable {p : Pg} {P : Program} {r : Ren} {h : H} {w : World}

/-! ### What the machine has done, step for step -/
structure DS where
  b : Nat
  env : T V
  h : H
  j : Nat
  past : List H
  pend : List Pend
noncomputable def zObj (z : V) (t : Nat) : Obj := .cells (T.lf.puts 0 z.cells) z.cells.length t .no false
inductive Stp (p : Pg) (cal : Cal) (all : List Oper) (e : PlanE) (s : DS) : V → DS → Prop
  | flt {t : Nat} {z : V} (hf : e.flt = true) (hg : e.o.guard = none) (ho : e.o.op = .alloc t) (hz : zeroOf p t = some z) (hp : pendOk p cal (s.j + 1) (s.h.setD s.b (zObj z t)) s.pend = true) :
      Stp p cal all e s (.ptr s.b 0) ⟨s.b + 1, putE s.env e.o.dst (.ptr s.b 0), s.h.setD s.b (zObj z t), s.j + 1, s.h :: s.past, s.pend⟩
  | pure {v : V} {h1 : H} (hf : e.flt = false) (hw : wantedA all e.o s.env = some true) (he : e.eff = false) (hx : execA e.o.op p cal s.env s.h = some (v, h1)) (hb : firstN (sameIn p cal e.o s.env v) (s.j - e.lo) s.past = true) :
      Stp p cal all e s v ⟨s.b, putE s.env e.o.dst v, s.h, s.j, s.past, if s.j < e.hi then ⟨e.o, s.env, v, e.hi⟩ :: s.pend else s.pend⟩
  | eff {v : V} {h1 : H} (hf : e.flt = false) (hw : wantedA all e.o s.env = some true) (he : e.eff = true) (hx : execA e.o.op p cal s.env s.h = some (v, h1)) (hp : pendOk p cal (s.j + 1) h1 s.pend = true) :
      Stp p cal all e s v ⟨s.b, putE s.env e.o.dst v, h1, s.j + 1, s.h :: s.past, s.pend⟩
  | skip (hf : e.flt = false) (hw : wantedA all e.o s.env = some false) (he : e.eff = false) : Stp p cal all e s undef ⟨s.b, putE s.env e.o.dst undef, s.h, s.j, s.past, s.pend⟩
  | skipE (hf : e.flt = false) (hw : wantedA all e.o s.env = some false) (he : e.eff = true) : Stp p cal all e s undef ⟨s.b, putE s.env e.o.dst undef, s.h, s.j + 1, s.h :: s.past, s.pend⟩
theorem effD_some {cal : Cal} {e : PlanE} {k : DK} {b : Nat} {env : T V} {h : H} {j : Nat} {past : List H} {pend : List Pend} {q : R} {res : T V × H} (hh : effD p cal e k b env h j past pend q = some res) :
    ∃ v h', q = some (v, h') ∧ pendOk p cal (j + 1) h' pend = true ∧ k b (putE env e.o.dst v) h' (j + 1) (h :: past) pend = some res := by
  unfold effD at hh
  split at hh
  · cases hh
  · split at hh
    · cases hh
    · rename_i v h' hp
      rw [putA_eq] at hh
      exact ⟨_, _, rfl, hp, hh⟩
theorem stepD_some {cal : Cal} {all : List Oper} {e : PlanE} {k : DK} {s : DS} {res : T V × H} (hh : stepD p cal all e k s.b s.env s.h s.j s.past s.pend = some res) :
    ∃ v s', Stp p cal all e s v s' ∧ k s'.b s'.env s'.h s'.j s'.past s'.pend = some res := by
  unfold stepD at hh
  split at hh
  · rename_i hf
    split at hh
    · rename_i hg
      rw [forceNat_eq] at hh
      obtain ⟨v, h', h1, h2, h3⟩ := effD_some hh
      unfold allocAt at h1
      split at h1
      · rename_i t ht
        split at h1
        · rename_i z hz
          rw [T.putsK_eq, forceNat_eq, H.set_eq, len_eq] at h1
          simp only [Option.some.injEq, Prod.mk.injEq] at h1
          obtain ⟨rfl, rfl⟩ := h1
          exact ⟨_, _, .flt hf hg ht hz h2, h3⟩
        · cases h1
      · cases h1
    · cases hh
  · rename_i hf
    split at hh
    · rename_i hw he
      unfold pureD at hh
      split at hh
      · cases hh
      · rename_i v h1 hx
        split at hh
        · cases hh
        · rename_i hb
          rw [putA_eq, blt_iff] at hh
          refine ⟨_, _, .pure hf hw he hx hb, ?_⟩
          by_cases hlt : s.j < e.hi
          · rw [decide_eq_true hlt] at hh; simp only [if_pos hlt]; exact hh
          · rw [decide_eq_false hlt] at hh; simp only [if_neg hlt]; exact hh
    · rename_i hw he
      obtain ⟨v, h', h1, h2, h3⟩ := effD_some hh
      exact ⟨_, _, .eff hf hw he h1 h2, h3⟩
    · rename_i hw he
      rw [putA_eq] at hh
      exact ⟨_, _, .skip hf hw he, hh⟩
    · rename_i hw he
      rw [putA_eq] at hh
      exact ⟨_, _, .skipE hf hw he, hh⟩
    · cases hh
theorem evalD_steps {cal : Cal} {all : List Oper} {env' : T V} {h' : H} : ∀ (es : List PlanE) (s : DS), evalD p cal all es s.b s.env s.h s.j s.past s.pend = some (env', h') →
    ∃ (S : Nat → DS) (val : Nat → V), S 0 = s ∧ (∀ i e, es[i]? = some e → Stp p cal all e (S i) (val i) (S (i + 1))) ∧ (S es.length).env = env' ∧ (S es.length).h = h'
  | [], s, e => by
    have e1 : some (s.env, s.h) = some (env', h') := e
    simp only [Option.some.injEq, Prod.mk.injEq] at e1
    exact ⟨fun _ => s, fun _ => undef, rfl, fun i e he => by simp at he, e1.1, e1.2⟩
  | x :: es, s, e => by
    have e1 : stepD p cal all x (evalD p cal all es) s.b s.env s.h s.j s.past s.pend = some (env', h') := e
    obtain ⟨v, s', h1, h2⟩ := stepD_some e1
    obtain ⟨S, val, k1, k2, k3, k4⟩ := evalD_steps es s' h2
    refine ⟨fun i => Nat.casesOn i s S, fun i => Nat.casesOn i v val, rfl, fun i e he => ?_, k3, k4⟩
    cases i with
    | zero => simp only [List.getElem?_cons_zero, Option.some.injEq] at he; subst he; show Stp p cal all x s v (S 0); rw [k1]; exact h1
    | succ i => rw [List.getElem?_cons_succ] at he; exact k2 i e he

def SameAt (p : Pg) (cal : Cal) (o : Oper) (env : T V) (v : V) (h : H) : Prop := ∃ v' h', execA o.op p cal env h = some (v', h') ∧ ∀ (r : Ren) x, VR r v' x → VR r v x
theorem sameIn_sound {cal : Cal} {o : Oper} {env : T V} {v : V} {h : H} (e : sameIn p cal o env v h = true) : SameAt p cal o env v h := by
  unfold sameIn sameR at e
  split at e
  · rename_i v' h' hx; exact ⟨v', h', hx, fun r x hv => beqV_sound 40 v v' e x hv⟩
  · cases e
theorem firstN_spec {f : H → Bool} : ∀ (m : Nat) (l : List H), firstN f m l = true → ∀ k, k < m → ∃ h, l[k]? = some h ∧ f h = true
  | 0, _, _, k, hk => by omega
  | m + 1, [], e, _, _ => by cases e
  | m + 1, x :: l, e, k, hk => by
    simp only [firstN] at e
    cases hx : f x with
    | false => rw [hx] at e; cases e
    | true =>
      rw [hx] at e
      cases k with
      | zero => exact ⟨x, rfl, hx⟩
      | succ k => rw [List.getElem?_cons_succ]; exact firstN_spec m l e k (by omega)
theorem pendOk_spec {cal : Cal} {j : Nat} {h : H} : ∀ (l : List Pend), pendOk p cal j h l = true → ∀ x ∈ l, j ≤ x.hi → sameIn p cal x.o x.env x.v h = true
  | [], _, x, hx, _ => by cases hx
  | a :: l, e, x, hx, hj => by
    simp only [pendOk, ble_iff] at e
    rcases List.mem_cons.1 hx with rfl | hx
    · rw [decide_eq_true hj] at e
      cases hs : sameIn p cal x.o x.env x.v h with
      | true => rfl
      | false => rw [hs] at e; cases e
    · refine pendOk_spec l ?_ x hx hj
      by_cases ha : j ≤ a.hi
      · rw [decide_eq_true ha] at e
        cases hs : sameIn p cal a.o a.env a.v h with
        | true => rw [hs] at e; exact e
        | false => rw [hs] at e; cases e
      · rw [decide_eq_false ha] at e; exact e
/-- The heaps, from the first one on. -/
def DS.hist (s : DS) : List H := (s.h :: s.past).reverse
theorem Stp.hist {cal : Cal} {all : List Oper} {e : PlanE} {s s' : DS} {v : V} (he : e.flt = true → e.eff = true) (hs : Stp p cal all e s v s') :
    (e.eff = false ∧ s'.hist = s.hist ∧ s'.j = s.j ∧ s'.h = s.h) ∨ (e.eff = true ∧ s'.hist = s.hist ++ [s'.h] ∧ s'.j = s.j + 1) := by
  cases hs with
  | flt hf => exact .inr ⟨he hf, by simp [DS.hist], rfl⟩
  | pure hf hw he => exact .inl ⟨he, rfl, rfl, rfl⟩
  | eff hf hw he => exact .inr ⟨he, by simp [DS.hist], rfl⟩
  | skip hf hw he => exact .inl ⟨he, rfl, rfl, rfl⟩
  | skipE hf hw he => exact .inr ⟨he, by simp [DS.hist], rfl⟩
theorem Stp.pend {cal : Cal} {all : List Oper} {e : PlanE} {s s' : DS} {v : V} (hs : Stp p cal all e s v s') : ∀ x ∈ s.pend, x ∈ s'.pend := by
  cases hs with
  | pure => intro x hx; simp only; split <;> simp [hx]
  | _ => exact fun x hx => hx
theorem Stp.b {cal : Cal} {all : List Oper} {e : PlanE} {s s' : DS} {v : V} (hs : Stp p cal all e s v s') : s'.b = s.b + if e.flt = true then 1 else 0 := by
  cases hs with
  | flt hf => simp [hf]
  | pure hf => simp [hf]
  | eff hf => simp [hf]
  | skip hf => simp [hf]
  | skipE hf => simp [hf]
theorem Stp.env {cal : Cal} {all : List Oper} {e : PlanE} {s s' : DS} {v : V} (hs : Stp p cal all e s v s') : s'.env = putE s.env e.o.dst v := by
  cases hs <;> rfl
/-- What a step checks of those that wait. -/
theorem Stp.waits {cal : Cal} {all : List Oper} {e : PlanE} {s s' : DS} {v : V} (hs : Stp p cal all e s v s') : ∀ x ∈ s.pend, s'.j ≤ x.hi → SameAt p cal x.o x.env x.v s.h → SameAt p cal x.o x.env x.v s'.h := by
  cases hs with
  | flt hf hg ho hz hp => exact fun x hx hj _ => sameIn_sound (pendOk_spec _ hp x hx hj)
  | eff hf hw he hx hp => exact fun x hx hj _ => sameIn_sound (pendOk_spec _ hp x hx hj)
  | _ => exact fun _ _ _ h => h
theorem isFlt_eff {op : Op} (h : isFlt op = true) : isEff p op = true := by
  cases op <;> simp only [isFlt] at h <;> first | (cases h; done) | rfl
theorem fltIdx_append (a b : List Oper) (i : Nat) : fltIdx (a ++ b) i = fltIdx a i ++ fltIdx b (i + a.length) := by
  induction a generalizing i with
  | nil => rfl
  | cons o a ih =>
    simp only [List.cons_append, fltIdx, ih, List.length_cons]
    have : i.succ + a.length = i + (a.length + 1) := by omega
    rw [this]
    cases isFlt o.op <;> simp
noncomputable def frank (ops : List Oper) (i : Nat) : Nat := (fltIdx (ops.take i) 0).length
theorem frank_succ {ops : List Oper} {i : Nat} {o : Oper} (ho : ops[i]? = some o) : frank ops (i + 1) = frank ops i + if isFlt o.op = true then 1 else 0 := by
  unfold frank
  rw [List.take_add_one, ho, fltIdx_append, List.length_append]
  congr 1
  simp only [Option.toList_some, fltIdx]
  cases isFlt o.op <;> simp
theorem frank_mono {ops : List Oper} {i k : Nat} (hik : i ≤ k) (hk : k ≤ ops.length) : frank ops i ≤ frank ops k := by
  induction k with
  | zero => rw [Nat.le_zero.1 hik]; exact Nat.le_refl _
  | succ k ih =>
    rcases Nat.eq_or_lt_of_le hik with rfl | hlt
    · exact Nat.le_refl _
    · have ho : ops[k]? = some ops[k] := by simp
      rw [frank_succ ho]
      have := ih (by omega) (by omega)
      omega
theorem rank_mono {ops : List Oper} {i k : Nat} (hik : i ≤ k) (hk : k ≤ ops.length) : rank p ops i ≤ rank p ops k := by
  induction k with
  | zero => rw [Nat.le_zero.1 hik]; exact Nat.le_refl _
  | succ k ih =>
    rcases Nat.eq_or_lt_of_le hik with rfl | hlt
    · exact Nat.le_refl _
    · have ho : ops[k]? = some ops[k] := by simp
      rw [rank_succ ho]
      have := ih (by omega) (by omega)
      omega
/-- What the trace says of one operation. -/
inductive TrOp (p : Pg) (cal : Cal) (ops : List Oper) (E : Nat → T V) (hs : Nat → H) (fb : Nat → Nat) (i : Nat) (o : Oper) : V → Prop
  | flt {t : Nat} {z : V} (hf : isFlt o.op = true) (hg : o.guard = none) (ho : o.op = .alloc t) (hz : zeroOf p t = some z) (hh : hs (rank p ops i + 1) = (hs (rank p ops i)).setD (fb i) (zObj z t)) : TrOp p cal ops E hs fb i o (.ptr (fb i) 0)
  | skip (hf : isFlt o.op = false) (hw : wantedA ops o (E i) = some false) (hh : isEff p o.op = true → hs (rank p ops i + 1) = hs (rank p ops i)) : TrOp p cal ops E hs fb i o undef
  | eff {v : V} (hf : isFlt o.op = false) (hw : wantedA ops o (E i) = some true) (he : isEff p o.op = true) (hx : execA o.op p cal (E i) (hs (rank p ops i)) = some (v, hs (rank p ops i + 1))) : TrOp p cal ops E hs fb i o v
  | pure {v : V} (hf : isFlt o.op = false) (hw : wantedA ops o (E i) = some true) (he : isEff p o.op = false)
      (hx : ∀ k, countLo (nthD (ancs ops []) i) (effIdx p ops 0) ≤ k → k ≤ countHi (ancs ops []) i (effIdx p ops 0) → k ≤ (effIdx p ops 0).length → SameAt p cal o (E i) v (hs k)) : TrOp p cal ops E hs fb i o v
structure Tr (p : Pg) (cal : Cal) (ops : List Oper) (b0 : Nat) (env : T V) (h : H) (env' : T V) (h' : H) (E : Nat → T V) (hs : Nat → H) (fb : Nat → Nat) (val : Nat → V) : Prop where
  e0 : E 0 = env
  en : E ops.length = env'
  h0 : hs 0 = h
  hn : hs (effIdx p ops 0).length = h'
  op : ∀ i o, ops[i]? = some o → E (i + 1) = putE (E i) o.dst (val i) ∧ TrOp p cal ops E hs fb i o (val i)
  fl : ∀ f o, ops[f]? = some o → isFlt o.op = true → b0 ≤ fb f ∧ fb f < b0 + (fltIdx ops 0).length
  ne : ∀ f f' o o', ops[f]? = some o → ops[f']? = some o' → isFlt o.op = true → isFlt o'.op = true → f < f' → fb f ≠ fb f'
theorem draw_trace {cal : Cal} {ops : List Oper} {b0 : Nat} {env : T V} {h : H} {env' : T V} {h' : H} (e : evalD p cal ops (plan p ops) b0 env h 0 [] [] = some (env', h')) :
    ∃ E hs fb val, Tr p cal ops b0 env h env' h' E hs fb val := by
  obtain ⟨S, val, h1, h2, h3, h4⟩ := evalD_steps (plan p ops) ⟨b0, env, h, 0, [], []⟩ e
  have hlen : (plan p ops).length = ops.length := planOf_length _ _
  rw [hlen] at h3 h4
  have hpl : ∀ i o, ops[i]? = some o → Stp p cal ops ⟨o, isEff p o.op, isFlt o.op, countLo (nthD (ancs ops []) i) (effIdx p ops 0), countHi (ancs ops []) i (effIdx p ops 0)⟩ (S i) (val i) (S (i + 1)) := by
    intro i o ho
    have := planOf_get (p := p) (as := ancs ops []) (es := effIdx p ops 0) ops 0 i o ho
    rw [Nat.zero_add] at this
    exact h2 i _ this
  have hst : ∀ i o, ops[i]? = some o → (isEff p o.op = false ∧ (S (i + 1)).hist = (S i).hist ∧ (S (i + 1)).j = (S i).j ∧ (S (i + 1)).h = (S i).h) ∨ (isEff p o.op = true ∧ (S (i + 1)).hist = (S i).hist ++ [(S (i + 1)).h] ∧ (S (i + 1)).j = (S i).j + 1) :=
    fun i o ho => (hpl i o ho).hist fun hf => isFlt_eff hf
  have hj : ∀ i, i ≤ ops.length → (S i).j = rank p ops i := by
    intro i
    induction i with
    | zero => intro _; rw [h1]; rfl
    | succ i ih =>
      intro hi
      have ho : ops[i]? = some ops[i] := by simp
      rw [rank_succ ho, ← ih (by omega)]
      rcases hst i _ ho with ⟨a, -, b, -⟩ | ⟨a, -, b⟩
      · rw [a, b]; simp
      · rw [a, b]; simp
  have hb : ∀ i, i ≤ ops.length → (S i).b = b0 + frank ops i := by
    intro i
    induction i with
    | zero => intro _; rw [h1]; rfl
    | succ i ih =>
      intro hi
      have ho : ops[i]? = some ops[i] := by simp
      rw [frank_succ ho, (hpl i _ ho).b, ih (by omega), Nat.add_assoc]
  have hhl : ∀ i, i ≤ ops.length → (S i).hist.length = (S i).j + 1 := by
    intro i
    induction i with
    | zero => intro _; rw [h1]; rfl
    | succ i ih =>
      intro hi
      have ho : ops[i]? = some ops[i] := by simp
      rcases hst i _ ho with ⟨-, a, b, -⟩ | ⟨-, a, b⟩
      · rw [a, b]; exact ih (by omega)
      · rw [a, b, List.length_append, ih (by omega)]; rfl
  have hpre : ∀ k i, i ≤ k → k ≤ ops.length → ∀ x, x < (S i).hist.length → (S k).hist[x]? = (S i).hist[x]? := by
    intro k
    induction k with
    | zero => intro i hi _ x _; rw [Nat.le_zero.1 hi]
    | succ k ih =>
      intro i hi hk x hx
      rcases Nat.eq_or_lt_of_le hi with rfl | hlt
      · rfl
      · have hrec := ih i (by omega) (by omega) x hx
        have ho : ops[k]? = some ops[k] := by simp
        rcases hst k _ ho with ⟨-, a, -⟩ | ⟨-, a, -⟩
        · rw [a]; exact hrec
        · have hxl : x < (S k).hist.length := by
            rw [List.getElem?_eq_getElem hx] at hrec
            exact (List.getElem?_eq_some_iff.1 hrec).1
          rw [a, List.getElem?_append_left hxl]; exact hrec
  let hs : Nat → H := fun k => ((S ops.length).hist[k]?).getD h'
  have hlast : ∀ i, i ≤ ops.length → (S i).hist[(S i).j]? = some (S i).h := by
    intro i hi
    have hl := hhl i hi
    unfold DS.hist at hl ⊢
    rw [List.length_reverse, List.length_cons] at hl
    rw [List.reverse_cons, List.getElem?_append_right (by rw [List.length_reverse]; omega), List.length_reverse]
    have : (S i).j - (S i).past.length = 0 := by omega
    rw [this]; rfl
  have hsat : ∀ i, i ≤ ops.length → ∀ k g, (S i).hist[k]? = some g → hs k = g := by
    intro i hi k g hg
    have hk := (List.getElem?_eq_some_iff.1 hg).1
    show ((S ops.length).hist[k]?).getD h' = g
    rw [hpre ops.length i hi (Nat.le_refl _) k hk, hg]; rfl
  have hsj : ∀ i, i ≤ ops.length → hs (rank p ops i) = (S i).h := fun i hi => hsat i hi _ _ (by rw [← hj i hi]; exact hlast i hi)
  refine ⟨fun i => (S i).env, hs, fun i => (S i).b, val, ?_⟩
  refine ⟨by show (S 0).env = env; rw [h1], h3, ?_, ?_, fun i o ho => ?_, fun f o ho hf => ?_, fun f f' o o' ho ho' hf hf' hlt => ?_⟩
  · have := hsj 0 (Nat.zero_le _)
    rw [h1] at this; exact this
  · rw [← rank_len, hsj _ (Nat.le_refl _), h4]
  · have hi : i < ops.length := (List.getElem?_eq_some_iff.1 ho).1
    have hs1 := hpl i o ho
    have r0 := hsj i (by omega)
    have r1 := hsj (i + 1) (by omega)
    rw [rank_succ ho] at r1
    have hjj := hj i (by omega)
    refine ⟨hs1.env, ?_⟩
    generalize hv : val i = v at hs1
    generalize hS' : S (i + 1) = s' at hs1 r1
    cases hs1 with
    | flt hf hg hop hz hp =>
      rw [if_pos (isFlt_eff hf)] at r1
      exact .flt hf hg hop hz (by rw [r1, r0])
    | skip hf hw he => exact .skip hf hw fun h => by simp only [] at he; rw [he] at h; cases h
    | skipE hf hw he =>
      have he' : isEff p o.op = true := he
      rw [if_pos he'] at r1
      exact .skip hf hw fun _ => by rw [r1, r0]
    | eff hf hw he hx hp =>
      have he' : isEff p o.op = true := he
      rw [if_pos he'] at r1
      exact .eff hf hw he' (by rw [r1, r0]; exact hx)
    | pure hf hw he hx hbk =>
      have he' : isEff p o.op = false := he
      refine .pure hf hw he' fun k hk1 hk2 hk3 => ?_
      have hown : SameAt p cal o (S i).env v (S i).h := ⟨v, _, hx, fun _ _ h => h⟩
      rcases Nat.lt_trichotomy k (S i).j with hlt | heq | hgt
      · obtain ⟨g, hg1, hg2⟩ := firstN_spec _ _ hbk ((S i).j - 1 - k) (by simp only []; omega)
        have hpl' : (S i).past.length = (S i).j := by
          have := hhl i (by omega); unfold DS.hist at this; rw [List.length_reverse, List.length_cons] at this; omega
        have : (S i).hist[k]? = some g := by
          unfold DS.hist
          rw [List.reverse_cons, List.getElem?_append_left (by rw [List.length_reverse]; omega), List.getElem?_reverse (by omega), hpl']
          exact hg1
        rw [hsat i (by omega) k g this]
        exact sameIn_sound hg2
      · rw [heq, hjj, r0]; exact hown
      · have hmem : (⟨o, (S i).env, v, countHi (ancs ops []) i (effIdx p ops 0)⟩ : Pend) ∈ (S (i + 1)).pend := by
          rw [hS']; simp only []
          rw [if_pos (by omega)]; simp
        have key : ∀ q, i + 1 ≤ q → q ≤ ops.length → (⟨o, (S i).env, v, countHi (ancs ops []) i (effIdx p ops 0)⟩ : Pend) ∈ (S q).pend ∧ ∀ k, (S i).j ≤ k → k ≤ (S q).j → k ≤ countHi (ancs ops []) i (effIdx p ops 0) → SameAt p cal o (S i).env v (hs k) := by
          intro q
          induction q with
          | zero => intro hq; omega
          | succ q ih =>
            intro hq hqn
            rcases Nat.eq_or_lt_of_le hq with heq | hlt
            · have hq0 : q = i := by omega
              subst hq0
              refine ⟨hmem, fun k a b _ => ?_⟩
              have : k = (S q).j := by rw [hS'] at b; simp only [] at b; omega
              rw [this, hjj, r0]; exact hown
            · obtain ⟨ha, hbb⟩ := ih (by omega) (by omega)
              have hoq : ops[q]? = some ops[q] := by simp
              have hsq := hpl q _ hoq
              refine ⟨hsq.pend _ ha, fun k a b c => ?_⟩
              rcases hst q _ hoq with ⟨-, -, c2, -⟩ | ⟨-, -, c2⟩
              · rw [c2] at b; exact hbb k a b c
              · rcases Nat.lt_or_ge k (S (q + 1)).j with hlt2 | hge
                · exact hbb k a (by omega) c
                · have hk : k = (S (q + 1)).j := by omega
                  have hmono : (S i).j ≤ (S q).j := by rw [hj q (by omega), hjj]; exact rank_mono (by omega) (by omega)
                  have hprev := hbb (S q).j hmono (Nat.le_refl _) (by omega)
                  rw [hj q (by omega), hsj q (by omega)] at hprev
                  have := hsq.waits _ ha (by simp only []; omega) hprev
                  rw [hk, hj (q + 1) (by omega), hsj (q + 1) (by omega)]
                  exact this
        refine (key ops.length (by omega) (Nat.le_refl _)).2 k (by omega) ?_ hk2
        rw [hj _ (Nat.le_refl _), rank_len]; exact hk3
  · have hf1 : f < ops.length := (List.getElem?_eq_some_iff.1 ho).1
    have := frank_succ ho
    rw [hf] at this
    have h5 := frank_mono (ops := ops) (i := f + 1) (k := ops.length) (by omega) (Nat.le_refl _)
    have h6 : frank ops ops.length = (fltIdx ops 0).length := by unfold frank; rw [List.take_length]
    show b0 ≤ (S f).b ∧ (S f).b < _
    rw [hb f (by omega)]
    simp only [if_true] at this
    omega
  · have hf1 : f < ops.length := (List.getElem?_eq_some_iff.1 ho).1
    have hf2 : f' < ops.length := (List.getElem?_eq_some_iff.1 ho').1
    have := frank_succ ho
    rw [hf] at this
    have h5 := frank_mono (ops := ops) (i := f + 1) (k := f') (by omega) (by omega)
    show (S f).b ≠ (S f').b
    rw [hb f (by omega), hb f' (by omega)]
    simp only [if_true] at this
    omega
end Go.Am
