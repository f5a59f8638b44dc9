/- A part of the abstract machine, or of a proof over it. -/
import Derived.Test.YtnpkghopofokhaaGreatDoorAmRegion
import Derived.LoopNIn
namespace Go.Am
variable {p : Pg} {P : Program} {r : Ren} {h : H} {w : World}

/-! ### Code -/
inductive MarksR (r : Ren) : List Nat → List Deferred → Prop
  | nil : MarksR r [] []
  | cons {m : Nat} {loc : Loc} {ms : List Nat} {ds : List Deferred} (h : r m = some loc) (t : MarksR r ms ds) : MarksR r (m :: ms) ({ target := .collected loc.blk, args := #[] } :: ds)
theorem MarksR.mono {r r' : Ren} (hr : r.le r') : ∀ {ms : List Nat} {ds : List Deferred}, MarksR r ms ds → MarksR r' ms ds
  | _, _, .nil => .nil
  | _, _, .cons h t => .cons (hr _ _ h) (t.mono hr)
def FR (r : Ren) (F : Fence) : Option Nat → Prop
  | none => F = Fence.wide
  | some l => ∃ loc, r l = some loc ∧ F = Fence.wide.inRound loc.blk
theorem FR.mono {r r' : Ren} (hr : r.le r') {F : Fence} : ∀ {rnd : Option Nat}, FR r F rnd → FR r' F rnd
  | none, h => h
  | some _, ⟨loc, h, e⟩ => ⟨loc, hr _ _ h, e⟩
theorem FR.open {F : Fence} : ∀ {rnd : Option Nat}, FR r F rnd → Open F
  | none, h => .inl h
  | some _, ⟨_, _, e⟩ => .inr ⟨_, e⟩
def toE : Out → Exit
  | .normal => .normal
  | .exit id => .exit id
  | .ret => .ret
  | .goto l => .goto l
def Post (P : Program) (r : Ren) (h : H) (w : World) (a : Act) (res : Res) (Q : Exit → Act → World → Prop) : Prop :=
  ∀ r' a' w', Step P r h w r' res.h w' → EnvR r' res.env a'.tmps → MarksR r' res.marks a'.defers → a'.tmps.size = a.tmps.size → Q (toE res.out) a' w'
/-- A piece of code comes to what the machine says. -/
def CodeOk (P : Program) (rnd : Option Nat) (c : Code) (s : St) : Prop := ∀ env d h res, s env d h = some res → ∀ F r w a n Q, FR r F rnd → Sim P r h w → EnvR r env a.tmps → MarksR r d a.defers →
  codeOk P.globals.size a.tmps.size c = true → Post P r h w a res Q → c.wpIn F n P Q a w
theorem Post.self (hs : Sim P r h w) {a : Act} {env : T V} {d : List Nat} {o : Out} {Q : Exit → Act → World → Prop} (he : EnvR r env a.tmps) (hm : MarksR r d a.defers) (hq : Post P r h w a ⟨o, env, d, h⟩ Q) : Q (toE o) a w :=
  hq r a w (Step.refl hs) he hm rfl
theorem seq_ok {rnd : Option Nat} {x y : Code} {s t : St} (hx : CodeOk P rnd x s) (hy : CodeOk P rnd y t) : CodeOk P rnd (.seq x y) (cSeq x y s t) := by
  intro env d h res e F r w a n Q hF hs he hm hc hq
  simp only [codeOk, Bool.and_eq_true] at hc
  unfold cSeq at e
  cases h1 : s env d h with
  | none => rw [h1] at e; cases e
  | some q =>
    rw [h1] at e
    obtain ⟨out, env1, d1, h'⟩ := q
    refine wpIn_seq (hx _ _ _ _ h1 F r w a n _ hF hs he hm hc.1 ?_)
    intro r' a' w' hst he' hm' hz
    cases out with
    | normal =>
      exact hy _ _ _ _ e F r' w' a' n Q (hF.mono (hst.le hs)) hst.sim he' hm' (by rw [hz]; exact hc.2) fun r'' a'' w'' hst2 he2 hm2 hz2 => hq r'' a'' w'' (hst.trans hst2) he2 hm2 (by rw [hz2, hz])
    | exit id => simp only [loopK, Option.some.injEq] at e; subst e; exact hq r' a' w' hst he' hm' hz
    | ret => simp only [loopK, Option.some.injEq] at e; subst e; exact hq r' a' w' hst he' hm' hz
    | goto l => simp only [loopK, Option.some.injEq] at e; subst e; exact hq r' a' w' hst he' hm' hz
theorem loop_ok {rnd : Option Nat} {c : Code} {s : St} (hc0 : CodeOk P rnd c s) (k : Nat) : CodeOk P rnd (.loop c) (cLoop k c s) := by
  have key : ∀ (k : Nat) (env : T V) (d : List Nat) (h : H) (res : Res) (r : Ren) (w : World) (a : Act) (F : Fence) (n : Nat) (Q : Exit → Act → World → Prop), loopN s k env d h = some res → FR r F rnd → Sim P r h w → EnvR r env a.tmps → MarksR r d a.defers →
      codeOk P.globals.size a.tmps.size c = true → Post P r h w a res Q → Code.roundsIn F n P c Q k a w := by
    intro k
    induction k with
    | zero => intro env d h res r w a F n Q e; cases e
    | succ k ih =>
      intro env d h res r w a F n Q e hF hs he hm hc hq
      have e1 : loopK (loopN s k) (s env d h) = some res := e
      cases h1 : s env d h with
      | none => rw [h1] at e1; cases e1
      | some q =>
        rw [h1] at e1
        obtain ⟨out, env1, d1, h'⟩ := q
        rw [roundsIn_succ]
        refine hc0 _ _ _ _ h1 F r w a n _ hF hs he hm hc ?_
        intro r' a' w' hst he' hm' hz
        cases out with
        | normal =>
          exact ih env1 d1 h' res r' w' a' F n Q e1 (hF.mono (hst.le hs)) hst.sim he' hm' (by rw [hz]; exact hc) fun r'' a'' w'' hst2 he2 hm2 hz2 => hq r'' a'' w'' (hst.trans hst2) he2 hm2 (hz2.trans hz)
        | exit id => simp only [loopK, Option.some.injEq] at e1; subst e1; exact hq r' a' w' hst he' hm' hz
        | ret => simp only [loopK, Option.some.injEq] at e1; subst e1; exact hq r' a' w' hst he' hm' hz
        | goto l => simp only [loopK, Option.some.injEq] at e1; subst e1; exact hq r' a' w' hst he' hm' hz
  intro env d h res e F r w a n Q hF hs he hm hc hq
  exact wpIn_loop_rounds k (key k env d h res r w a F n Q e hF hs he hm hc hq)
theorem cond_ok {rnd : Option Nat} {c : Operand} {x y : Code} {s t : St} (hx : CodeOk P rnd x s) (hy : CodeOk P rnd y t) : CodeOk P rnd (.cond c x y) (cCond c x y s t) := by
  intro env d h res e F r w a n Q hF hs he hm hc hq
  simp only [codeOk, Bool.and_eq_true] at hc
  obtain ⟨hg, hcx, hcy⟩ := hc
  unfold cCond at e
  rw [opk_eq] at e
  have hv := opd_sound hs he hg
  generalize hc' : a.eval c = c' at hv
  generalize opd env c = v at hv e
  cases hv <;> simp only [condK] at e <;> try (cases e; done)
  rename_i b
  cases b with
  | true => exact wpIn_cond_true hc' (hx _ _ _ _ e F r w a n Q hF hs he hm hcx hq)
  | false => exact wpIn_cond_false hc' (hy _ _ _ _ e F r w a n Q hF hs he hm hcy hq)
theorem block_ok {rnd : Option Nat} {id : Nat} {c : Code} {s : St} (hc0 : CodeOk P rnd c s) : CodeOk P rnd (.block id c) (cBlock id c s) := by
  intro env d h res e F r w a n Q hF hs he hm hc hq
  unfold cBlock at e
  cases h1 : s env d h with
  | none => rw [h1] at e; cases e
  | some q =>
    rw [h1] at e
    obtain ⟨out, env1, d1, h'⟩ := q
    refine wpIn_block (hc0 _ _ _ _ h1 F r w a n _ hF hs he hm hc ?_)
    intro r' a' w' hst he' hm' hz
    cases out with
    | normal => simp only [blockK, Option.some.injEq] at e; subst e; exact hq r' a' w' hst he' hm' hz
    | exit id' =>
      simp only [blockK, beq_iff] at e
      show (if id' = id then Q .normal a' w' else Q (.exit id') a' w')
      by_cases hid : id' = id
      · rw [decide_eq_true hid] at e
        simp only [Option.some.injEq] at e; subst e
        rw [if_pos hid]; exact hq r' a' w' hst he' hm' hz
      · rw [decide_eq_false hid] at e
        simp only [Option.some.injEq] at e; subst e
        rw [if_neg hid]; exact hq r' a' w' hst he' hm' hz
    | ret => simp only [blockK, Option.some.injEq] at e; subst e; exact hq r' a' w' hst he' hm' hz
    | goto l => simp only [blockK, Option.some.injEq] at e; subst e; exact hq r' a' w' hst he' hm' hz
theorem skip_ok {rnd : Option Nat} : CodeOk P rnd .skip cSkip := by
  intro env d h res e F r w a n Q hF hs he hm hc hq
  simp only [cSkip, Option.some.injEq] at e; subst e
  exact wpIn_skip (Post.self hs he hm hq)
theorem label_ok {rnd : Option Nat} {l : Nat} : CodeOk P rnd (.label l) (cLabel l) := by
  intro env d h res e F r w a n Q hF hs he hm hc hq
  simp only [cLabel, cSkip, Option.some.injEq] at e; subst e
  exact wpIn_label (Post.self hs he hm hq)
theorem exit_ok {rnd : Option Nat} {id : Nat} : CodeOk P rnd (.exit id) (cExit id) := by
  intro env d h res e F r w a n Q hF hs he hm hc hq
  simp only [cExit, Option.some.injEq] at e; subst e
  exact wpIn_exit (Post.self hs he hm hq)
theorem goto_ok {rnd : Option Nat} {id : Nat} : CodeOk P rnd (.goto id) (cGoto id) := by
  intro env d h res e F r w a n Q hF hs he hm hc hq
  simp only [cGoto, Option.some.injEq] at e; subst e
  exact wpIn_goto (Post.self hs he hm hq)
theorem ret_ok {rnd : Option Nat} : CodeOk P rnd .ret cRet := by
  intro env d h res e F r w a n Q hF hs he hm hc hq
  simp only [cRet, Option.some.injEq] at e; subst e
  exact wpIn_ret (Post.self hs he hm hq)
theorem region_ok (Fi : Fits p P) {cal : Cal} (hcal : CalOk P cal) {rnd : Option Nat} {id : Nat} {ops : Array Oper} : CodeOk P rnd (.region id ops false) (cRegion p cal id ops false) := by
  intro env d h res e F r w a n Q hF hs he hm hc hq
  unfold cRegion at e
  have e1 : fromOps d (evalOps p cal ops.toList ops.toList env h) = some res := e
  cases h1 : evalOps p cal ops.toList ops.toList env h with
  | none => rw [h1] at e1; cases e1
  | some q =>
    rw [h1] at e1
    obtain ⟨env', h'⟩ := q
    simp only [fromOps, Option.some.injEq] at e1; subst e1
    refine wpIn_region ?_
    rw [List.range_eq_range', ← Array.length_toList]
    refine evalOps_sound Fi hcal hF.open ops.toList 0 env h r a w rfl hs he hc h1 ?_
    intro r' a' w' hst he' hz hd
    exact hq r' a' w' hst he' (by rw [hd]; exact hm.mono (hst.le hs)) hz
end Go.Am
