/- A part of the abstract machine, or of a proof over it. -/
import Derived.Test.YtnpkghopofokhaaGreatDoorAmNat
import Derived.Test.YtnpkghopofokhaaGreatDoorAmDrawE
namespace Go.Am
variable {p : Pg} {P : Program} {r : Ren} {h : H} {w : World}

/-! ### Calls -/
theorem opsOk_mono {g n m : Nat} (hnm : n ≤ m) : ∀ (l : List Oper), opsOk g n l = true → opsOk g m l = true
  | [], _ => rfl
  | o :: r, e => by
    simp only [opsOk] at e ⊢
    cases hd : o.dst with
    | none => rw [hd] at e; simp only [Bool.and_eq_true] at e ⊢; exact ⟨e.1, opsOk_mono hnm r e.2⟩
    | some d => rw [hd] at e; simp only [Bool.and_eq_true, blt_iff, decide_eq_true_eq] at e ⊢; exact ⟨by omega, e.2.1, opsOk_mono hnm r e.2.2⟩
theorem codeOk_mono {g n m : Nat} (hnm : n ≤ m) : ∀ (c : Code), codeOk g n c = true → codeOk g m c = true := by
  intro c
  induction c with
  | region id ops draw => exact opsOk_mono hnm _
  | seq a b iha ihb => intro e; simp only [codeOk, Bool.and_eq_true] at e ⊢; exact ⟨iha e.1, ihb e.2⟩
  | cond c a b iha ihb => intro e; simp only [codeOk, Bool.and_eq_true] at e ⊢; exact ⟨e.1, iha e.2.1, ihb e.2.2⟩
  | block id a ih => exact ih
  | loop a ih => exact ih
  | scope a ih => exact ih
  | rangeFunc f ps a b iha ihb =>
    intro e
    simp only [codeOk, Bool.and_eq_true, List.all_eq_true, blt_iff, decide_eq_true_eq] at e ⊢
    exact ⟨e.1, fun t ht => Nat.lt_of_lt_of_le (e.2.1 t ht) hnm, iha e.2.2.1, ihb e.2.2.2⟩
  | _ => exact fun _ => rfl
theorem envR_args {args : List V} {args' : Array Value} (ha : VRs r args args'.toList) (k : Nat) : EnvR r (T.lf.puts 0 args) (args' ++ Array.replicate k Go.undef) := by
  intro t
  unfold opdAt
  rw [T.get_puts, Array.getD_eq_getD_getElem?]
  have hl := ha.length
  rw [Array.length_toList (xs := args')] at hl
  by_cases ht : 0 ≤ t ∧ t < 0 + args.length
  · rw [if_pos ht]
    have h1 : args[t - 0]? = some (args[t]'(by omega)) := by simp
    obtain ⟨v', h2, h3⟩ := ha.get (i := t) (v := args[t]'(by omega)) (by simp)
    rw [Array.getElem?_toList] at h2
    rw [h1, Array.getElem?_append_left (by omega), h2]
    exact h3
  · rw [if_neg ht, T.get_lf]
    have : ((args' ++ Array.replicate k Go.undef)[t]?).getD Go.undef = Go.undef := by
      rw [Array.getElem?_append_right (by omega), Array.getElem?_replicate]
      split <;> rfl
    rw [this]
    exact undef_sound r
theorem resA_sound (F : Fits p P) (hs : Sim P r h w) {env : T V} {tmps : Array Value} (he : EnvR r env tmps) : ∀ (rs : List ResultVar) (vs : List V), resA p env h rs = some vs →
    ∃ vs', (rs.mapM fun x : ResultVar => (match x with
      | .tmp t => pure (tmps.getD t Go.undef)
      | .cell a t => do loadVar t (← asAddr (tmps.getD a Go.undef)) : Sem Value)).run P w = .ok vs' w ∧ VRs r vs vs'
  | [], vs, e => by
    simp only [resA, Option.some.injEq] at e; subst e
    exact ⟨[], by simp, .nil⟩
  | .tmp t :: rs, vs, e => by
    simp only [resA] at e
    cases h1 : resA p env h rs with
    | none => rw [h1] at e; cases e
    | some l =>
      rw [h1] at e
      simp only [Option.some.injEq] at e; subst e
      obtain ⟨vs', h2, h3⟩ := resA_sound F hs he rs l h1
      refine ⟨_, by rw [List.mapM_cons]; simp only [Sem.run_bind, Sem.run_pure, Result.andThen_ok, h2]; rfl, .cons ?_ h3⟩
      have := he t
      unfold opdAt at this
      simp only [opd]
      cases hh : env.get t with
      | none => rw [hh] at this; exact this
      | some v => rw [hh] at this; exact this
  | .cell a t :: rs, vs, e => by
    simp only [resA] at e
    cases h0 : loadP p t (opd env (.tmp a)) h with
    | none => rw [h0] at e; cases e
    | some v =>
      rw [h0] at e
      simp only [] at e
      cases h1 : resA p env h rs with
      | none => rw [h1] at e; cases e
      | some l =>
        rw [h1] at e
        simp only [Option.some.injEq] at e; subst e
        obtain ⟨vs', h2, h3⟩ := resA_sound F hs he rs l h1
        have ha : VR r (opd env (.tmp a)) (tmps.getD a Go.undef) := by
          have := he a
          unfold opdAt at this
          simp only [opd]
          cases hh : env.get a with
          | none => rw [hh] at this; exact this
          | some v => rw [hh] at this; exact this
        generalize opd env (.tmp a) = y at ha h0
        generalize hy : tmps.getD a Go.undef = y' at ha
        cases ha <;> simp only [loadP] at h0 <;> try (cases h0; done)
        rename_i l1 o loc hr
        obtain ⟨v', k1, k2⟩ := run_loadV F hs hr h0
        refine ⟨v' :: vs', ?_, .cons k2 h3⟩
        rw [List.mapM_cons, Sem.run_bind]
        have h4 : (do loadVar t (← asAddr (tmps.getD a Go.undef)) : Sem Value).run P w = .ok v' w := by
          rw [hy]; simp [asAddr, k1]
        simp only []
        rw [h4]
        simp only [Result.andThen_ok, Sem.run_bind, h2, Sem.run_pure]
theorem results_sound (F : Fits p P) (hs : Sim P r h w) {env : T V} {tmps : Array Value} (he : EnvR r env tmps) {fn : Func} {vs : List V} (e : resA p env h fn.results.toList = some vs) :
    ∃ vs' : List Value, VRs r vs vs' ∧ (results fn tmps).run P w = .ok (if h : vs'.toArray.size = 1 then vs'.toArray[0] else .tuple vs'.toArray) w := by
  obtain ⟨vs', h1, h2⟩ := resA_sound F hs he _ _ e
  refine ⟨vs', h2, ?_⟩
  unfold results
  rw [Sem.run_bind, Array.mapM_eq_mapM_toList, Sem.run_map]
  exact (congrArg (fun q : Result (List Value) => (q.andThen fun a w' => .ok a.toArray w').andThen fun a w' => Sem.run P (pure (if h : a.size = 1 then a[0] else .tuple a)) w') h1).trans rfl
/-- A function's value. -/
def finV (vs : List V) : V := match vs with
  | [v] => v
  | vs => .tup vs
theorem finV_sound {vs : List V} {vs' : List Value} (hv : VRs r vs vs') : VR r (finV vs) (if h : vs'.toArray.size = 1 then vs'.toArray[0] else .tuple vs'.toArray) := by
  cases hv with
  | nil => exact .tup .nil
  | cons hx t =>
    cases t with
    | nil => exact hx
    | cons hy t =>
      rw [dif_neg (by simp)]
      exact .tup (.cons hx (.cons hy t))
theorem leaves_ok (F : Fits p P) {n : Nat} {fn : Func} {tmps : Array Value} {env : T V} {R : Ending → World → Prop} {h0 : H} {vs : List V} : ∀ (ms : List Nat) (ds : List Deferred) (h : H) (r : Ren) (w : World), MarksR r ms ds → Sim P r h w → EnvR r env tmps → takeMarks h ms = some h0 →
    resA p env h0 fn.results.toList = some vs → (∀ v' w' r', Step P r h w r' h0 w' → VR r' (finV vs) v' → R (.returned v') w') → LeavesInM Fence.wide n P fn tmps R ds .returning w
  | _, _, h, r, w, .nil, hs, he, e, er, hR => by
    simp only [takeMarks, Option.some.injEq] at e; subst e
    obtain ⟨vs', h1, h2⟩ := results_sound F hs he er
    exact ⟨_, h2, hR _ _ r (Step.refl hs) (finV_sound h1)⟩
  | m :: ms, _ :: ds, h, r, w, .cons (loc := loc) hm t, hs, he, e, er, hR => by
    simp only [takeMarks] at e
    split at e
    · rename_i hg
      rw [H.set_eq] at e
      obtain ⟨-, loc', mo, h1, h2, h3⟩ := hs.obj m _ hg
      rw [hm] at h1; cases h1
      have h3' : mo = .deferred (some []) := h3
      subst h3'
      have hlt := (Array.getElem?_eq_some_iff.1 h2).1
      have hst : Step P r h w r (h.setD m (.defd false)) (w.putObj loc.blk (.deferred none)) :=
        hs.set (m' := .deferred none) hg (fun _ _ hh => by cases hh) hm (by simp [World.putObj]) (by simp only [World.putObj]; rw [Array.getElem?_setIfInBounds_self_of_lt hlt]) (fun b hb => by simp only [World.putObj]; rw [Array.getElem?_setIfInBounds_ne (Ne.symm hb)]) rfl rfl rfl rfl
      refine ⟨by simp, .inl ⟨loc.blk, _, rfl, run_takeDeferred h2, leaves_ok F ms ds _ r _ t hst.sim he e er fun v' w' r' hst2 hv => hR v' w' r' (hst.trans hst2) hv⟩⟩
    · cases e
theorem evalC_ok (Fi : Fits p P) {cal : Cal} (hcal : CalOk P cal) (rnd : Option Nat) (lf : Nat) : ∀ (c : Code), CodeOk P rnd c (evalC p cal rnd lf c) := by
  intro c
  induction c with
  | skip => exact skip_ok
  | region id ops draw =>
    cases draw with
    | false => exact region_ok Fi hcal
    | true => exact draw_ok Fi hcal
  | seq a b iha ihb => exact seq_ok iha ihb
  | cond c a b iha ihb => exact cond_ok iha ihb
  | block id a ih => exact block_ok ih
  | loop a ih => exact loop_ok ih lf
  | rangeFunc f ps a b iha ihb => exact range_ok Fi hcal (s := evalC p cal rnd lf a) (t := evalC p cal rnd lf b)
  | exit id => exact exit_ok
  | scope a ih => intro env d h res e; cases e
  | label l => exact label_ok
  | goto l => exact goto_ok
  | ret => exact ret_ok
  | refuse s => intro env d h res e; cases e
theorem putMany_sound : ∀ (ps : List Nat) (args : List V) (args' : List Value) (env : T V) (tmps : Array Value), VRs r args args' → EnvR r env tmps → (∀ t ∈ ps, t < tmps.size) →
    ∃ env1, (∀ k : T V → R, putMany env ps args k = k env1) ∧ EnvR r env1 ((ps.zip args').foldl (fun tmps (x : Nat × Value) => tmps.setIfInBounds x.1 x.2) tmps) ∧ ((ps.zip args').foldl (fun tmps (x : Nat × Value) => tmps.setIfInBounds x.1 x.2) tmps).size = tmps.size
  | [], args, args', env, tmps, _, he, _ => ⟨env, fun k => by cases args <;> rfl, by simpa using he, by simp⟩
  | t :: ps, [], _, env, tmps, .nil, he, _ => ⟨env, fun k => rfl, by simpa using he, by simp⟩
  | t :: ps, v :: vs, v' :: vs', env, tmps, .cons hv ht, he, hp => by
    obtain ⟨env1, h1, h2, h3⟩ := putMany_sound ps vs vs' (env.put t (some v)) (tmps.setIfInBounds t v') ht (he.put (hp t (by simp)) hv) fun x hx => by simpa using hp x (by simp [hx])
    refine ⟨env1, fun k => ?_, by simpa using h2, by simpa using h3⟩
    simp only [putMany, T.putK_eq]
    exact h1 k
theorem MarksR.nil_inv {ds : List Deferred} (h : MarksR r [] ds) : ds = [] := by cases h; rfl
theorem endRound_ok {h0 : H} {w0 : World} {r0 : Ren} {l : Nat} {loc : Loc} {v : V} {h' : H} {r3 : Ren} {w3 : World} {out : Out} {env : T V} {d : List Nat} {h3 : H} {a3 : Act} (hst : Step P r0 h0 w0 r3 h3 w3) (hl : r3 l = some loc)
    (e : endRoundA l (some ⟨out, env, d, h3⟩) = some (v, h')) : roundPost P loc.blk (retR (StepV P r0 h0 w0 v h')) (toE out) a3 w3 := by
  unfold endRoundA at e
  simp only [] at e
  split at e
  · split at e
    · rename_i e3 ps3 a3' b3 st pd dl3 hl3
      obtain ⟨L, hL1, hL2⟩ := hst.sim.loopRun hl hl3
      cases out with
      | normal =>
        simp only [H.set_eq, Option.some.injEq, Prod.mk.injEq] at e
        obtain ⟨rfl, rfl⟩ := e
        exact ⟨_, _, run_endRound none hL1, _, rfl, r3, hst.trans (hst.sim.setLoop (st' := .ready) (pend' := none) hl hl3 hL2), .bool _⟩
      | ret =>
        simp only [H.set_eq, Option.some.injEq, Prod.mk.injEq] at e
        obtain ⟨rfl, rfl⟩ := e
        exact ⟨_, _, run_endRound (some .ret) hL1, _, rfl, r3, hst.trans (hst.sim.setLoop (st' := .done) (pend' := some .ret) hl hl3 hL2), .bool _⟩
      | exit id =>
        simp only [H.set_eq, Option.some.injEq, Prod.mk.injEq] at e
        obtain ⟨rfl, rfl⟩ := e
        exact ⟨_, _, run_endRound (some (.exit id)) hL1, _, rfl, r3, hst.trans (hst.sim.setLoop (st' := .done) (pend' := some (.exit id)) hl hl3 hL2), .bool _⟩
      | goto t => cases e
    · cases e
  · cases e
theorem round_goes (Fi : Fits p P) {cal : Cal} (hcal : CalOk P cal) {lf l : Nat} {loc : Loc} (hs : Sim P r h w) (hl : r l = some loc) {args : List V} {args' : Array Value} (ha : VRs r args args'.toList) {v : V} {h' : H} (e : roundK p cal lf l args h = some (v, h')) :
    Goes P (StepV P r h w v h') ((Instr.yield loc.blk args').run P w) := by
  unfold roundK at e
  split at e
  · rename_i env ps asg bd st pd dl hlo
    obtain ⟨L, hL1, hL2⟩ := hs.loopRun hl hlo
    obtain ⟨L', e', g1, g2, g3, g4, g5, g6, g7, g8, g9, g10⟩ := hL2
    cases e'
    simp only [beq_iff, len_eq] at e
    by_cases hlen : ps.length = args.length
    · rw [decide_eq_true hlen] at e
      simp only [] at e
      have hsz : args'.size = L.params.size := by
        have := ha.length; rw [Array.length_toList (xs := args')] at this
        rw [g3]; show args'.size = ps.length; omega
      rw [run_yield hL1 hsz]
      obtain ⟨env1, k1, k2, k3⟩ := putMany_sound ps args args'.toList env L.tmps ha g7 g10
      rw [k1] at e
      have htm : (L.params.zip args').foldl (fun tmps (t, a) => tmps.setIfInBounds t a) L.tmps = (ps.zip args'.toList).foldl (fun tmps (x : Nat × Value) => tmps.setIfInBounds x.1 x.2) L.tmps := by
        rw [g3, ← Array.foldl_toList, Array.toList_zip, List.toList_toArray]
      intro n
      rw [htm]
      generalize (ps.zip args'.toList).foldl (fun tmps (x : Nat × Value) => tmps.setIfInBounds x.1 x.2) L.tmps = tm at k2 k3
      refine roundIn_of_wpIn trivial ?_
      rw [g4, g5]
      rw [g4] at *
      cases h1 : evalC p cal (some l) lf asg env1 [] h with
      | none => rw [h1] at e; cases e
      | some q =>
        rw [h1] at e
        obtain ⟨out, env2, d2, h2⟩ := q
        unfold bodyK at e
        simp only [] at e
        split at e
        · rename_i hout hd
          split at e
          · rename_i e2 ps2 a2 b2 st2 pd2 dl2 hl2
            split at e
            · rw [H.set_eq] at e
              refine evalC_ok Fi hcal (some l) lf asg _ _ _ _ h1 (Fence.wide.inRound loc.blk) r w ⟨tm, []⟩ n _ ⟨loc, hl, rfl⟩ hs k2 .nil (by rw [k3]; exact g8) ?_
              intro r1 a1 w1 hst1 he1 hm1 hz1
              have hl1 : r1 l = some loc := hst1.le hs _ _ hl
              obtain ⟨L2, hM1, hM2⟩ := hst1.sim.loopRun hl1 hl2
              have hst2 : L2.state = .ready := by obtain ⟨_, e', x1, _⟩ := hM2; cases e'; exact x1
              have hpd2 : L2.pending = pd2 := by obtain ⟨_, e', _, x1, _⟩ := hM2; cases e'; exact x1
              have hb := run_beginRound (P := P) hM1 hst2
              have hset := hst1.sim.setLoop (st' := .busy) (pend' := pd2) hl1 hl2 hM2
              have hL2e : ({ L2 with state := .busy, pending := pd2 } : Loop) = { L2 with state := .busy } := by rw [← hpd2]
              rw [hL2e] at hset
              refine ⟨_, hb, ?_⟩
              have hnil := hm1.nil_inv
              cases h3 : evalC p cal (some l) lf bd env2 [] (h2.setD l (.loop e2 ps2 a2 b2 .busy pd2 dl2)) with
              | none => rw [h3] at e; cases e
              | some q3 =>
                rw [h3] at e
                obtain ⟨out3, env3, d3, hh3⟩ := q3
                have hcb : codeOk P.globals.size a1.tmps.size bd = true := by
                  have : a1.tmps.size = tm.size := hz1
                  rw [this, k3]; exact g9
                refine evalC_ok Fi hcal (some l) lf bd _ _ _ _ h3 (Fence.wide.inRound loc.blk) r1 _ a1 n _ ⟨loc, hl1, rfl⟩ hset.sim he1 (by rw [hnil]; exact .nil) hcb ?_
                intro r3 a3 w3 hst3 he3 hm3 hz3
                have hall := (hst1.trans hset).trans hst3
                exact endRound_ok hall (hall.le hs _ _ hl) e
            · cases e
          · cases e
        · cases e
    · rw [decide_eq_false hlen] at e; cases e
  · cases e
theorem finA_some {g : Func} {env : T V} {ms : List Nat} {v : V} {h' : H} (e : finA p g env ms h = some (v, h')) : ∃ vs, takeMarks h ms = some h' ∧ resA p env h' g.results.toList = some vs ∧ v = finV vs := by
  unfold finA at e
  split at e
  · cases e
  · rename_i h1 ht
    split at e
    · cases e
    · rename_i vs hv
      split at e
      · simp only [Option.some.injEq, Prod.mk.injEq] at e
        obtain ⟨rfl, rfl⟩ := e
        exact ⟨_, ht, hv, rfl⟩
      · rename_i hne
        simp only [Option.some.injEq, Prod.mk.injEq] at e
        obtain ⟨rfl, rfl⟩ := e
        refine ⟨vs, ht, hv, ?_⟩
        unfold finV
        split
        · rename_i x; exact absurd rfl (hne x)
        · rfl
theorem enter_goes (Fi : Fits p P) {cal : Cal} (hcal : CalOk P cal) {lf : Nat} (hs : Sim P r h w) {f : FuncId} {g : Func} {c : Code} (hg : p.fn.get f = some g) (hb : g.body = some c) {args : List V} {args' : Array Value} (ha : VRs r args args'.toList) {v : V} {h' : H}
    (e : enterK p cal lf g c args h = some (v, h')) : Goes P (StepV P r h w v h') ((callFunc f args').run P w) := by
  simp only [enterK, T.putsK_eq] at e
  rw [callFunc_enter Fi hg (by rw [hb]; rfl)]
  intro m
  obtain ⟨hP, -, hcode⟩ := Fi.fn f g hg
  refine callsIn_of_wp_marks hP hb trivial ?_
  cases h1 : evalC p cal none lf c (T.lf.puts 0 args) [] h with
  | none => rw [h1] at e; cases e
  | some q =>
    rw [h1] at e
    obtain ⟨out, env1, ms, h2⟩ := q
    refine evalC_ok Fi hcal none lf c _ _ _ _ h1 Fence.wide r w ⟨args' ++ Array.replicate (g.ntmps - args'.size) Go.undef, []⟩ m _ rfl hs (envR_args ha _) .nil (codeOk_mono (n := g.ntmps) (by simp only [Array.size_append, Array.size_replicate]; omega) c (hcode c hb)) ?_
    intro r1 a1 w1 hst he hm hz
    have fin : finA p g env1 ms h2 = some (v, h') → LeavesInM Fence.wide m P g a1.tmps (retR (StepV P r h w v h')) a1.defers .returning w1 := by
      intro e2
      obtain ⟨vs, t1, t2, rfl⟩ := finA_some e2
      exact leaves_ok Fi ms a1.defers h2 r1 w1 hm hst.sim he t1 t2 fun v' w' r' hst2 hv => ⟨v', rfl, r', hst.trans hst2, hv⟩
    cases out with
    | normal => exact fin e
    | ret => exact fin e
    | exit id => cases e
    | goto t => cases e
theorem callN_ok (Fi : Fits p P) (lf : Nat) : ∀ n, CalOk P (callN p lf n) := by
  intro n
  induction n with
  | zero => intro fn args h v h' e; cases e
  | succ n ih =>
    intro fn args h v h' e r w fn' args' hfn ha hs
    cases hfn with
    | func f =>
      simp only [callN] at e
      cases hg : p.fn.get f with
      | none => rw [hg] at e; cases e
      | some g =>
        rw [hg] at e
        simp only [] at e
        cases hb : g.body with
        | none =>
          rw [hb] at e
          exact native_goes Fi hs hg hb ha e
        | some c =>
          rw [hb] at e
          exact enter_goes Fi ih hs hg hb ha e
    | yield hl => exact round_goes Fi ih hs hl ha e
/-- What the machine says of a call is so. -/
theorem callN_calls (Fi : Fits p P) {lf n : Nat} {f : FuncId} {g : Func} (hg : p.fn.get f = some g) (hb : g.body.isSome = true) {args : List V} {args' : Array Value} {v : V} {h' : H} (e : callN p lf n (.func f) args h = some (v, h')) (hs : Sim P r h w) (ha : VRs r args args'.toList) :
    Calls P f args' w (retR (StepV P r h w v h')) := by
  have hgo := callN_ok Fi lf n _ _ _ _ _ e r w (.func f) args' (.func f) ha hs
  have h2 : Goes P (StepV P r h w v h') ((callFunc f args').run P w) := hgo
  rw [callFunc_enter Fi hg hb] at h2
  exact callsIn_wide.1 (h2 0)
end Go.Am
