/- A part of the abstract machine, or of a proof over it. -/
import Derived.Test.YtnpkghopofokhaaGreatDoorAmExec
namespace Go.Am
variable {p : Pg} {P : Program} {r : Ren} {h : H} {w : World}

/-! ### Regions in order -/
/-- The fences that say nothing. -/
def Open (F : Fence) : Prop := F = Fence.wide ∨ ∃ l, F = Fence.wide.inRound l
theorem Open.fn {F : Fence} (hF : Open F) (f : FuncId) : F.fn f := by rcases hF with rfl | ⟨l, rfl⟩ <;> exact trivial
theorem Open.depth {F : Fence} (hF : Open F) : F.depth = none := by rcases hF with rfl | ⟨l, rfl⟩ <;> rfl
theorem Open.calls {F : Fence} (hF : Open F) {n m : Nat} {f : FuncId} {args : Array Value} {w : World} {R : Ending → World → Prop} (h : CallsIn Fence.wide n P f args w R) : CallsIn F m P f args w R := by
  rcases hF with rfl | ⟨l, rfl⟩
  · exact ⟨h.1, fun cs hr => h.2 cs (room_wide _)⟩
  · exact ⟨h.1, fun cs hr => h.2 cs (room_wide _)⟩
theorem Open.round {F : Fence} (hF : Open F) {n m l : Nat} {f : FuncId} {tmps : Array Value} {x y : Code} {w : World} {R : Ending → World → Prop} (h : RoundIn Fence.wide n P l f tmps x y w R) : RoundIn F m P l f tmps x y w R := by
  rcases hF with rfl | ⟨l, rfl⟩
  · exact ⟨h.1, fun c cs hr => h.2 c cs (room_wide _)⟩
  · exact ⟨h.1, fun c cs hr => h.2 c cs (room_wide _)⟩
/-- An operation over the open fences. -/
theorem wpIn_of_goes {F : Fence} (hF : Open F) {o : Oper} {a : Act} {n : Nat} {next : Act → World → Prop} {Q : Exit → Act → World → Prop} {R : Value → World → Prop} (hg : Goes P R ((o.semAt F.round a.eval).run P w)) (hn : ∀ v w', R v w' → next (a.put o.dst v) w') :
    o.wpIn F n P a w next Q :=
  ⟨fun f _ => hF.fn f, upon_of_goes (fun _ _ _ _ _ _ h => hF.calls h) (fun _ _ _ _ _ _ _ _ _ h => hF.round h) hF.depth hg hn⟩
theorem EnvR.put {env : T V} {tmps : Array Value} (he : EnvR r env tmps) {d : Nat} (hd : d < tmps.size) {v : V} {v' : Value} (hv : VR r v v') : EnvR r (env.put d (some v)) (tmps.setIfInBounds d v') := by
  intro t
  unfold opdAt
  rw [T.get_put]
  by_cases ht : t = d
  · subst ht
    rw [if_pos rfl, Array.getD_eq_getD_getElem?, Array.getElem?_setIfInBounds_self_of_lt hd]
    exact hv
  · rw [if_neg ht, Array.getD_eq_getD_getElem?, Array.getElem?_setIfInBounds_ne (fun e => ht e.symm), ← Array.getD_eq_getD_getElem?]
    exact he t
noncomputable def putE (env : T V) : Option Nat → V → T V
  | none, _ => env
  | some d, v => env.put d (some v)
theorem putA_eq {β : Type} (env : T V) (d : Option Nat) (v : V) (k : T V → β) : putA env d v k = k (putE env d v) := by
  cases d with
  | none => rfl
  | some d => exact T.putK_eq _ _ _ _
theorem nobool {v : V} {x : Value} (h : VR r v x) (h1 : ∀ b, v ≠ .bool b) (h2 : v ≠ .any) (h3 : v ≠ .top) : ∀ b, x ≠ .bool b := by
  intro b hb; subst hb
  cases h
  · exact h1 _ rfl
  · exact h2 rfl
  · exact h3 rfl
theorem want_sound' {ops : Array Oper} {env : T V} {tmps : Array Value} {o : Oper} {b : Bool} (he : ∀ t ∈ guardL ops.toList o.guard, VR r (opdAt env t) (tmps.getD t Go.undef)) (e : wantedA ops.toList o env = some b) : Region.wanted o (yielded ops tmps) = b := by
  unfold wantedA at e
  unfold Region.wanted
  cases hg : o.guard with
  | none => rw [hg] at e; simpa using e
  | some jw =>
    obtain ⟨j, want⟩ := jw
    rw [hg] at e
    simp only [] at e ⊢
    have hd : dstOf ops.toList j = (ops[j]?).bind (·.dst) := by
      unfold dstOf
      rw [nth_eq, Array.getElem?_toList]
      cases ops[j]? <;> rfl
    rw [hd] at e
    cases hb : (ops[j]?).bind (·.dst) with
    | none =>
      rw [hb] at e; simp only [Option.some.injEq] at e; subst e
      have : yielded ops tmps j = none := by unfold yielded; rw [hb]; rfl
      rw [this]; rfl
    | some d =>
      rw [hb] at e
      simp only [] at e
      have hv := he d (by rw [hg]; simp only [guardL, hd, hb, dstL]; exact List.mem_singleton.2 rfl)
      rw [Array.getD_eq_getD_getElem?] at hv
      unfold opdAt at hv
      have hno : (∀ b, (tmps[d]?).getD Go.undef ≠ .bool b) → yielded ops tmps j = none := by
        intro hh
        unfold yielded
        rw [hb, Option.bind_some]
        cases ht : tmps[d]? with
        | none => rfl
        | some x =>
          rw [ht] at hh
          cases x <;> first | rfl | exact absurd rfl (hh _)
      cases hge : env.get d with
      | none =>
        rw [hge] at e hv
        simp only [wantV, Option.some.injEq] at e; subst e
        have := hno (nobool hv (by simp [undef]) (by simp [undef]) (by simp [undef]))
        rw [this]; rfl
      | some v =>
        rw [hge] at e hv
        simp only [Option.getD_some] at hv
        by_cases hbv : ∃ b', v = .bool b'
        · obtain ⟨b', rfl⟩ := hbv
          simp only [wantV, Option.some.injEq] at e; subst e
          generalize hx : (tmps[d]?).getD Go.undef = x at hv
          cases hv
          cases ht : tmps[d]? with
          | none => rw [ht] at hx; simp [Go.undef] at hx
          | some x =>
            rw [ht] at hx
            simp only [Option.getD_some] at hx
            subst hx
            have : yielded ops tmps j = some b' := by unfold yielded; rw [hb, Option.bind_some, ht]
            rw [this]; rfl
        · have h1 : ∀ b', v ≠ .bool b' := fun b' hh => hbv ⟨b', hh⟩
          have h2 : v ≠ .any := by rintro rfl; cases e
          have h3 : v ≠ .top := by rintro rfl; cases e
          have hb0 : b = false := by
            cases v <;> simp_all [wantV]
          subst hb0
          rw [hno (nobool hv h1 h2 h3)]; rfl
theorem want_sound {ops : Array Oper} {env : T V} {tmps : Array Value} (he : EnvR r env tmps) {o : Oper} {b : Bool} (e : wantedA ops.toList o env = some b) : Region.wanted o (yielded ops tmps) = b :=
  want_sound' (fun t _ => he t) e
theorem opsOk_cons {g n : Nat} {o : Oper} {os : List Oper} (h : opsOk g n (o :: os) = true) : (∀ d, o.dst = some d → d < n) ∧ glOk g o.op.operands.toList = true ∧ opsOk g n os = true := by
  simp only [opsOk] at h
  cases hd : o.dst with
  | none => rw [hd] at h; simp only [Bool.and_eq_true] at h; exact ⟨fun d hh => (by cases hh), h.1, h.2⟩
  | some d => rw [hd] at h; simp only [Bool.and_eq_true, blt_iff, decide_eq_true_eq] at h; exact ⟨fun d' hh => (by cases hh; exact h.1), h.2.1, h.2.2⟩
theorem glOk_mem {g : Nat} : ∀ {l : List Operand}, glOk g l = true → ∀ x ∈ l, glOk g [x] = true
  | _ :: _, h, x, hx => by
    rcases List.mem_cons.1 hx with rfl | hx
    · exact (glOk_cons h).1
    · exact glOk_mem (glOk_cons h).2 x hx
theorem EnvR.putE {env : T V} {a : Act} (he : EnvR r env a.tmps) {dst : Option Nat} (hd : ∀ d, dst = some d → d < a.tmps.size) {v : V} {v' : Value} (hv : VR r v v') : EnvR r (putE env dst v) (a.put dst v').tmps := by
  cases dst with
  | none => exact he
  | some d => exact he.put (hd d rfl) hv
theorem put_size (a : Act) (dst : Option Nat) (v : Value) : (a.put dst v).tmps.size = a.tmps.size ∧ (a.put dst v).defers = a.defers := by
  cases dst <;> simp [Act.put]
theorem evalOps_sound (Fi : Fits p P) {cal : Cal} (hcal : CalOk P cal) {F : Fence} (hF : Open F) {n : Nat} {ops : Array Oper} {Q : Exit → Act → World → Prop} {env' : T V} {h' : H} :
    ∀ (os : List Oper) (i : Nat) (env : T V) (h : H) (r : Ren) (a : Act) (w : World), ops.toList.drop i = os → Sim P r h w → EnvR r env a.tmps → opsOk P.globals.size a.tmps.size os = true →
      evalOps p cal ops.toList os env h = some (env', h') →
      (∀ r' a' w', Step P r h w r' h' w' → EnvR r' env' a'.tmps → a'.tmps.size = a.tmps.size → a'.defers = a.defers → Q .normal a' w') →
      wpOpsIn F n P ops Q (List.range' i os.length) a w := by
  intro os
  induction os with
  | nil =>
    intro i env h r a w _ hs he _ e hQ
    have e' : some (env, h) = some (env', h') := e
    simp only [Option.some.injEq, Prod.mk.injEq] at e'
    obtain ⟨rfl, rfl⟩ := e'
    exact hQ r a w (Step.refl hs) he rfl rfl
  | cons o os ih =>
    intro i env h r a w hdrop hs he hok e hQ
    obtain ⟨hd, hgl, hok'⟩ := opsOk_cons hok
    have hi : ops[i]? = some o := by
      rw [← Array.getElem?_toList]
      have := congrArg (·[0]?) hdrop
      simpa using this
    have hdrop' : ops.toList.drop (i + 1) = os := by
      have := congrArg (List.drop 1) hdrop
      simpa [List.drop_drop, Nat.add_comm] using this
    have hop : ∀ x ∈ o.op.operands.toList, VR r (opd env x) (a.eval x) := fun x hx => opd_sound hs he (glOk_mem hgl x hx)
    have e1 : stepO p cal ops.toList o (evalOps p cal ops.toList os) env h = some (env', h') := e
    have run : runO p cal o (evalOps p cal ops.toList os) env h = some (env', h') → o.wpIn F n P a w (wpOpsIn F n P ops Q (List.range' (i + 1) os.length)) Q := by
      intro e2
      unfold runO goOn at e2
      cases hx : execA o.op p cal env h with
      | none => rw [hx] at e2; cases e2
      | some vh =>
        obtain ⟨v, h1⟩ := vh
        rw [hx] at e2
        have e3 : evalOps p cal ops.toList os (putE env o.dst v) h1 = some (env', h') := by
          have : putA env o.dst v (fun env => evalOps p cal ops.toList os env h1) = some (env', h') := e2
          rw [putA_eq] at this; exact this
        refine wpIn_of_goes hF (execA_sound Fi hcal hs hop hx F.round) ?_
        rintro v' w' ⟨r', hst, hv⟩
        obtain ⟨z1, z2⟩ := put_size a o.dst v'
        refine ih (i + 1) _ _ r' _ _ hdrop' hst.sim ((he.mono (hst.le hs)).putE hd hv) (by rw [z1]; exact hok') e3 ?_
        intro r'' a'' w'' hst2 he2 hs2 hd2
        exact hQ r'' a'' w'' (hst.trans hst2) he2 (by rw [hs2, z1]) (by rw [hd2, z2])
    have pass : passO o (evalOps p cal ops.toList os) env h = some (env', h') → wpOpsIn F n P ops Q (List.range' (i + 1) os.length) (a.put o.dst Go.undef) w := by
      intro e2
      unfold passO at e2
      rw [putA_eq] at e2
      obtain ⟨z1, z2⟩ := put_size a o.dst Go.undef
      refine ih (i + 1) _ _ r _ _ hdrop' hs (he.putE hd (undef_sound r)) (by rw [z1]; exact hok') e2 ?_
      intro r'' a'' w'' hst2 he2 hs2 hd2
      exact hQ r'' a'' w'' hst2 he2 (by rw [hs2, z1]) (by rw [hd2, z2])
    rw [List.length_cons, List.range'_succ]
    simp only [wpOpsIn, hi]
    unfold stepO at e1
    cases hg : o.guard with
    | none =>
      rw [hg] at e1
      have hw : Region.wanted o (yielded ops a.tmps) = true := by simp [Region.wanted, hg]
      rw [if_pos hw]
      exact run e1
    | some jw =>
      rw [hg] at e1
      have e2 : guardO p cal o (evalOps p cal ops.toList os) env h (wantedA ops.toList o env) = some (env', h') := e1
      cases hwa : wantedA ops.toList o env with
      | none => rw [hwa] at e2; cases e2
      | some b =>
        rw [hwa] at e2
        have hw := want_sound he hwa
        cases b with
        | true => rw [if_pos hw]; exact run e2
        | false => rw [if_neg (by rw [hw]; simp)]; exact ⟨fun f _ => hF.fn f, pass e2⟩
end Go.Am
