/- A part of the abstract machine, or of a proof over it. -/
import Derived.Test.YtnpkghopofokhaaGreatDoorAmCode
import Derived.RangeFuncRecord
namespace Go.Am
variable {p : Pg} {P : Program} {r : Ren} {h : H} {w : World}

/-! ### A range over a function -/
theorem hasBody_some {fn : Fn} (e : hasBody p fn = true) : ∃ f g, fn = .func f ∧ p.fn.get f = some g ∧ g.body.isSome = true := by
  unfold hasBody at e
  split at e
  · rename_i f
    split at e
    · rename_i g hg; exact ⟨f, g, rfl, hg, e⟩
    · cases e
  · cases e
theorem callFunc_enter (Fi : Fits p P) {f : FuncId} {g : Func} (hg : p.fn.get f = some g) (hb : g.body.isSome = true) (args : Array Value) (w : World) : (callFunc f args).run P w = .ok (.enter f args) w := by
  obtain ⟨h1, h2, -⟩ := Fi.fn f g hg
  have hn : ¬ g.body = none := by cases h : g.body <;> simp_all
  unfold callFunc
  simp [Sem.run_bind, h1, h2, hn]
theorem Sim.loopRun (hs : Sim P r h w) {l : Nat} {loc : Loc} (hr : r l = some loc) {env : T V} {ps : List Nat} {a b : Code} {st : LoopState} {pend : Option Code} {dl : Nat} (hl : h.get l = some (.loop env ps a b st pend dl)) :
    ∃ L : Loop, w.heap[loc.blk]? = some (.loop L) ∧ ObjR P r loc (.loop env ps a b st pend dl) (.loop L) := by
  obtain ⟨-, loc', m, h1, h2, h3⟩ := hs.obj l _ hl
  rw [hr] at h1; cases h1
  obtain ⟨L, rfl, hL⟩ := h3
  exact ⟨L, h2, L, rfl, hL⟩
/-- A loop's record turned. -/
theorem Sim.setLoop (hs : Sim P r h w) {l : Nat} {loc : Loc} (hr : r l = some loc) {env : T V} {ps : List Nat} {a b : Code} {st st' : LoopState} {pend pend' : Option Code} {dl : Nat} (hl : h.get l = some (.loop env ps a b st pend dl)) {L : Loop}
    (hL : ObjR P r loc (.loop env ps a b st pend dl) (.loop L)) : Step P r h w r (h.setD l (.loop env ps a b st' pend' dl)) (w.putObj loc.blk (.loop { L with state := st', pending := pend' })) := by
  have hlt : loc.blk < w.heap.size := hs.blk_lt (by rw [hl]; simp) hr
  refine hs.set (m' := .loop { L with state := st', pending := pend' }) hl (fun _ _ hh => by cases hh) hr (by simp [World.putObj]) ?_ (fun b hb => ?_) ?_ rfl rfl rfl
  · simp only [World.putObj]; rw [Array.getElem?_setIfInBounds_self_of_lt hlt]
  · simp only [World.putObj]; rw [Array.getElem?_setIfInBounds_ne (Ne.symm hb)]
  · obtain ⟨L', e, h1, h2, h3⟩ := hL
    cases e
    exact ⟨_, rfl, rfl, rfl, h3⟩
theorem rangeGo_ok (Fi : Fits p P) {cal : Cal} (hcal : CalOk P cal) {F : Fence} (hO : Open F) {n : Nat} {Q : Exit → Act → World → Prop} {ps : Array Nat} {asg bd : Code} {f : FuncId} {gf : Func} (hg : p.fn.get f = some gf) (hgb : gf.body.isSome = true)
    {first cap : List V} {first' cap' : Array Value} (hfirst : VRs r first first'.toList) (hcap : VRs r cap cap'.toList) {env : T V} {dl : Nat} {locd : Loc} (hdl : r dl = some locd) {d : List Nat} {mark : List Deferred} {a : Act} (hs : Sim P r h w) (he : EnvR r env a.tmps)
    (hm : MarksR r d (mark ++ a.defers)) (hca : codeOk P.globals.size a.tmps.size asg = true) (hcb : codeOk P.globals.size a.tmps.size bd = true) (hps : ∀ t ∈ ps.toList, t < a.tmps.size)
    {g : Operand} (hge : a.eval g = .func (.func f) first' cap') {w0 : World}
    (henter : ∀ fn, (Instr.enterLoop fn a.tmps ps asg bd F.round).run P w0 = .ok (w.heap.size, mark) { w with heap := w.heap.push (.loop { state := .ready, pending := none, fn, tmps := a.tmps, params := ps, assign := asg, body := bd, defers := locd.blk }) })
    {res : Res} (e : rangeGo cal ps.toList asg bd (.func f) first cap env dl d h = some res) (hq : Post P r h w { a with defers := mark ++ a.defers } res Q) : (Code.rangeFunc g ps asg bd).wpIn F n P Q a w0 := by
  unfold rangeGo at e
  rw [H.new_eq] at e
  refine wpIn_rangeFunc fun fn _ => ?_
  let w1 : World := { w with heap := w.heap.push (.loop { state := .ready, pending := none, fn, tmps := a.tmps, params := ps, assign := asg, body := bd, defers := locd.blk }) }
  let loc : Loc := ⟨w.heap.size, 0, 0, 0⟩
  have hst1 : Step P r h w (r.at h.nx loc) (h.newD (.loop env ps.toList asg bd .ready none dl)) w1 := by
    have hle : r.le (r.at h.nx loc) := Ren.le_at loc (hs.fresh _ (Nat.le_refl _))
    exact hs.new (loc := loc) rfl rfl ⟨_, rfl, rfl, rfl, by simp, rfl, rfl, ⟨locd, hle _ _ hdl, rfl⟩, he.mono hle, hca, hcb, hps⟩ rfl rfl rfl
  have hle := hst1.le hs
  have hl1 : (r.at h.nx loc) h.nx = some loc := Ren.at_same _ _ _
  cases hc : cal (.func f) (first ++ ([.func (.yield h.nx) [] []] ++ cap)) (h.newD (.loop env ps.toList asg bd .ready none dl)) with
  | none => rw [hc] at e; cases e
  | some q =>
    obtain ⟨v, h3⟩ := q
    rw [hc] at e
    have hargs : VRs (r.at h.nx loc) (first ++ ([V.func (.yield h.nx) [] []] ++ cap)) (first' ++ #[Value.func (.yield w.heap.size) #[] #[]] ++ cap').toList := by
      have hy : VR (r.at h.nx loc) (V.func (.yield h.nx) [] []) (Value.func (.yield w.heap.size) #[] #[]) := .yield (loc := loc) hl1
      have := (hfirst.mono hle).append ((VRs.cons hy .nil).append (hcap.mono hle))
      simpa using this
    have hgo := hcal _ _ _ _ _ hc _ _ (.func f) _ (.func f) hargs hst1.sim
    have hgo2 : Goes P (StepV P (r.at h.nx loc) (h.newD (.loop env ps.toList asg bd .ready none dl)) w1 v h3)
        ((callFunc f (first' ++ #[.func (.yield w.heap.size) #[] #[]] ++ cap')).run P w1) := hgo
    rw [callFunc_enter Fi hg hgb] at hgo2
    refine ⟨w.heap.size, mark, w1, { target := .fn (.func f) cap', args := first' ++ #[.func (.yield w.heap.size) #[] #[]] }, w1, f, first' ++ #[.func (.yield w.heap.size) #[] #[]] ++ cap', w1, henter fn, ?_, fun _ _ => hO.fn _, ?_, fun hh => ?_, ?_⟩
    · show Sem.run P (Deferred.ofValue (a.eval g) _) _ = _
      rw [hge]; simp [Deferred.ofValue, Act.eval, Sem.run_pure]
    · exact callFunc_enter Fi hg hgb _ _
    · rw [hO.depth] at hh; cases hh
    · refine CallsIn.mono (hO.calls (hgo2 0)) ?_
      rintro en w3 ⟨v', rfl, r3, hst3, -⟩
      unfold endLoopA at e
      simp only [] at e
      split at e
      · rename_i e0 ps0 a0 b0 st pend dl0 hl3
        have hr3 : r3 h.nx = some loc := hst3.le hst1.sim _ _ hl1
        obtain ⟨L, hL1, hL2⟩ := hst3.sim.loopRun hr3 hl3
        have hstb : L.state = st ∧ L.pending = pend := by obtain ⟨L', e', h1, h2, -⟩ := hL2; cases e'; exact ⟨h1, h2⟩
        have hbusy : st ≠ .busy := by intro hh; subst hh; cases e
        have e2 : endedK env d (h3.setD h.nx (.loop e0 ps0 a0 b0 .exhausted pend dl0)) pend = some res := by
          cases st <;> simp only [H.set_eq] at e <;> first | exact e | exact absurd rfl hbusy
        have hend : (Instr.endLoop w.heap.size).run P w3 = .ok pend (w3.putObj w.heap.size (.loop { L with state := .exhausted })) := by
          have hb : (L.state == LoopState.busy) = false := by rw [hstb.1]; cases st <;> first | rfl | exact absurd rfl hbusy
          have hL1' : w3.heap[w.heap.size]? = some (.loop L) := hL1
          unfold Instr.endLoop Instr.getLoop
          simp only [Sem.run_bind, run_getObj_loop hL1', Result.andThen_ok, Sem.run_pure, hb, Bool.false_eq_true, if_false, run_setObj_loop _ hL1', hstb.2]
        have hst4 := hst3.sim.setLoop (st' := .exhausted) (pend' := pend) hr3 hl3 hL2
        have hL3 : ({ L with state := .exhausted, pending := pend } : Loop) = { L with state := .exhausted } := by rw [← hstb.2]
        rw [hL3] at hst4
        have hall := (hst1.trans hst3).trans hst4
        refine ⟨pend, _, hend, ?_⟩
        have hle3 := hall.le hs
        cases pend with
        | none =>
          simp only [endedK, Option.some.injEq] at e2; subst e2
          exact hq r3 { a with defers := mark ++ a.defers } _ hall (he.mono hle3) (hm.mono hle3) rfl
        | some c =>
          cases c <;> simp only [endedK] at e2 <;> try (cases e2; done)
          · rename_i id
            simp only [Option.some.injEq] at e2; subst e2
            exact wpIn_exit (hq r3 { a with defers := mark ++ a.defers } _ hall (he.mono hle3) (hm.mono hle3) rfl)
          · simp only [Option.some.injEq] at e2; subst e2
            exact wpIn_ret (hq r3 { a with defers := mark ++ a.defers } _ hall (he.mono hle3) (hm.mono hle3) rfl)
      · cases e
theorem range_ok (Fi : Fits p P) {cal : Cal} (hcal : CalOk P cal) {rnd : Option Nat} {g : Operand} {ps : Array Nat} {asg bd : Code} {s t : St} : CodeOk P rnd (.rangeFunc g ps asg bd) (cRange p cal rnd g ps asg bd s t) := by
  intro env d h res e F r w a n Q hF hs he hm hc hq
  simp only [codeOk, Bool.and_eq_true, List.all_eq_true, blt_iff, decide_eq_true_eq] at hc
  obtain ⟨hgl, hps, hca, hcb⟩ := hc
  unfold cRange at e
  rw [opk_eq] at e
  have hv := opd_sound hs he hgl
  generalize hge : a.eval g = gv at hv
  cases hgv : opd env g <;> rw [hgv] at e hv <;> simp only [rangeK] at e <;> try (cases e; done)
  rename_i fn first cap
  cases hb : hasBody p fn with
  | false => rw [hb] at e; cases e
  | true =>
    rw [hb] at e
    simp only [] at e
    obtain ⟨f, gf, rfl, hg, hgb⟩ := hasBody_some hb
    cases hv with
    | func hfirst hcap =>
    cases rnd with
    | none =>
      have hFw : F = Fence.wide := hF
      subst hFw
      simp only [H.new_eq] at e
      let locd : Loc := ⟨w.heap.size, 0, 0, 0⟩
      have hst0 : Step P r h w (r.at h.nx locd) (h.newD (.defd true)) { w with heap := w.heap.push (.deferred (some [])) } := hs.new (loc := locd) rfl rfl rfl rfl rfl rfl
      have hle := hst0.le hs
      refine rangeGo_ok Fi hcal (.inl rfl) hg hgb (hfirst.mono hle) (hcap.mono hle) (Ren.at_same _ _ _) (mark := [{ target := .collected w.heap.size, args := #[] }]) hst0.sim (he.mono hle) (.cons (loc := locd) (Ren.at_same _ _ _) (hm.mono hle)) hca hcb hps hge (fun fn => ?_) e ?_
      · simp only [Instr.enterLoop, Sem.run_bind, run_newObj, Result.andThen_ok, Sem.run_pure, Fence.wide]
        rfl
      · intro r' a' w' hst he' hm' hz
        exact hq r' a' w' (hst0.trans hst) he' hm' hz
    | some l0 =>
      obtain ⟨loc0, hr0, rfl⟩ := hF
      simp only [] at e
      split at e
      · rename_i e0 ps0 a0 b0 st0 pd0 dl hl0
        obtain ⟨L, hL1, hL2⟩ := hs.loopRun hr0 hl0
        obtain ⟨L', e', h1, h2, h3, h4, h5, ⟨locd, h6, h7⟩, -⟩ := hL2
        cases e'
        refine rangeGo_ok Fi hcal (.inr ⟨_, rfl⟩) hg hgb hfirst hcap h6 (mark := []) hs he hm hca hcb hps hge (fun fn => ?_) e hq
        simp only [Instr.enterLoop, Instr.getLoop, Fence.inRound, Sem.run_bind, run_getObj_loop hL1, run_newObj, Result.andThen_ok, Sem.run_pure, h7]
      · cases e
end Go.Am
