/- A part of the abstract machine, or of a proof over it. -/
import Derived.Test.YtnpkghopofokhaaGreatDoorAmOps15
namespace Go.Am
variable {p : Pg} {P : Program} {r : Ren} {h : H} {w : World}

/-! ### One operation -/
def retR (R : Value → World → Prop) : Ending → World → Prop := fun e w' => ∃ v, e = .returned v ∧ R v w'
/-- What an operation comes to: a value, or a call that comes to one. -/
def Goes (P : Program) (R : Value → World → Prop) : Result Next → Prop
  | .ok (.value v) w' => R v w'
  | .ok .skip w' => R Go.undef w'
  | .ok (.enter f args) w' => ∀ n, CallsIn Fence.wide n P f args w' (retR R)
  | .ok (.round l f tmps a b) w' => ∀ n, RoundIn Fence.wide n P l f tmps a b w' (retR R)
  | _ => False
def callS : Fn → Array Value → Sem Next
  | .func f, args => callFunc f args
  | .yield l, args => Instr.yield l args
  | _, _ => stuck "callS"
inductive FnR (r : Ren) : Fn → Fn → Prop
  | func (f : FuncId) : FnR r (.func f) (.func f)
  | yield {l : Nat} {loc : Loc} (h : r l = some loc) : FnR r (.yield l) (.yield loc.blk)
/-- What a step of the machine comes to in the model. -/
def StepV (P : Program) (r : Ren) (h : H) (w : World) (v : V) (h' : H) : Value → World → Prop := fun v' w' => ∃ r', Step P r h w r' h' w' ∧ VR r' v v'
/-- The machine's calls are the model's. -/
def CalOk (P : Program) (cal : Cal) : Prop := ∀ fn args h v h', cal fn args h = some (v, h') → ∀ r w fn' args', FnR r fn fn' → VRs r args args'.toList → Sim P r h w → Goes P (StepV P r h w v h') ((callS fn' args').run P w)

theorem goes_value {v : V} {h' : H} {s : Sem Value} (e : Does P r h w s v h') : Goes P (StepV P r h w v h') ((do pure (.value (← s)) : Sem Next).run P w) := by
  obtain ⟨v', w', r', h1, h2, h3⟩ := e
  rw [Sem.run_bind, h1]
  exact ⟨r', h2, h3⟩
theorem goes_skip {h' : H} {s : Sem Unit} (e : ∃ w', s.run P w = .ok () w' ∧ Step P r h w r h' w') : Goes P (StepV P r h w undef h') ((do s; pure .skip : Sem Next).run P w) := by
  obtain ⟨w', h1, h2⟩ := e
  rw [Sem.run_bind, h1]
  exact ⟨r, h2, undef_sound r⟩
theorem upon_of_goes {F : Fence} (hF : ∀ n m f args w R, CallsIn Fence.wide n P f args w R → CallsIn F m P f args w R) (hF' : ∀ n m l f tmps x y w R, RoundIn Fence.wide n P l f tmps x y w R → RoundIn F m P l f tmps x y w R) (hd : F.depth = none)
    {o : Oper} {a : Act} {n : Nat} {next : Act → World → Prop} {Q : Exit → Act → World → Prop} {R : Value → World → Prop} {res : Result Next} (hg : Goes P R res) (hn : ∀ v w', R v w' → next (a.put o.dst v) w') : o.uponIn F n P a next Q res := by
  unfold Goes at hg
  split at hg
  · exact hn _ _ hg
  · exact hn _ _ hg
  · rw [Oper.uponIn_enter]
    refine ⟨fun hh => (by rw [hd] at hh; cases hh), (hF 0 (n - 1) _ _ _ _ (hg 0)).mono ?_⟩
    rintro e w' ⟨v, rfl, hv⟩
    exact hn _ _ hv
  · rw [Oper.uponIn_round]
    refine ⟨fun hh => (by rw [hd] at hh; cases hh), (hF' 0 (n - 1) _ _ _ _ _ _ _ (hg 0)).mono ?_⟩
    rintro e w' ⟨v, rfl, hv⟩
    exact hn _ _ hv
  · cases hg
theorem exV_some {o : Option V} {v : V} {h' : H} (e : exV o h = some (v, h')) : o = some v ∧ h' = h := by
  cases o with
  | none => cases e
  | some x => simp only [exV, Option.some.injEq, Prod.mk.injEq] at e; exact ⟨by rw [e.1], e.2.symm⟩
theorem exH_some {o : Option H} {v : V} {h' : H} (e : exH o = some (v, h')) : o = some h' ∧ v = undef := by
  cases o with
  | none => cases e
  | some x => simp only [exH, Option.some.injEq, Prod.mk.injEq] at e; exact ⟨by rw [e.2], e.1.symm⟩
theorem OptR_map {env : T V} {a : Act} : ∀ (x : Option Operand), (∀ y, x = some y → VR r (opd env y) (a.eval y)) → OptR r (x.map (opd env)) (x.map a.eval)
  | none, _ => .none
  | some _, h => .some (h _ rfl)
theorem PartsR_map {env : T V} {a : Act} : ∀ (ps : List (Nat × Operand)), (∀ x ∈ ps.map (·.2), VR r (opd env x) (a.eval x)) → PartsR r (ps.map fun (i, x) => (i, opd env x)) (ps.map fun (i, x) => (i, a.eval x))
  | [], _ => .nil
  | (i, x) :: ps, h => .cons (h x (by simp)) (PartsR_map ps fun y hy => h y (by simp at hy ⊢; exact .inr hy))
theorem VRs_map {env : T V} {a : Act} : ∀ (xs : List Operand), (∀ x ∈ xs, VR r (opd env x) (a.eval x)) → VRs r (xs.map (opd env)) (xs.map a.eval)
  | [], _ => .nil
  | x :: xs, h => .cons (h x (by simp)) (VRs_map xs fun y hy => h y (by simp [hy]))
theorem parts_eq' {env : T V} (xs : List (Nat × Operand)) (k : List (Nat × V) → R) : parts env xs k = k (xs.map fun (i, x) => (i, opd env x)) := parts_eq env xs k
theorem call_goes {cal : Cal} (hcal : CalOk P cal) (hs : Sim P r h w) {fv : V} {fv' : Value} {as : List V} {as' : Array Value} {v : V} {h' : H} (hf : VR r fv fv') (ha : VRs r as as'.toList) (e : callR cal as h fv = some (v, h')) :
    Goes P (StepV P r h w v h') ((do let d ← Deferred.ofValue fv' as'; invoke d.target d.args : Sem Next).run P w) := by
  cases hf <;> simp only [callR] at e <;> try (cases e; done)
  · rename_i f a b a' b' ha1 hb1
    have := hcal _ _ _ _ _ e r w (.func f) (a' ++ as' ++ b') (.func f) (by simpa using ha1.append (ha.append hb1)) hs
    exact this
  · rename_i l loc hl
    have := hcal _ _ _ _ _ e r w (.yield loc.blk) as' (.yield hl) (by simpa using ha) hs
    have h2 : Sem.run P (do let d ← Deferred.ofValue (.func (.yield loc.blk) #[] #[]) as'; invoke d.target d.args : Sem Next) w = (callS (.yield loc.blk) as').run P w := by
      show Sem.run P (Instr.yield loc.blk (#[] ++ as')) w = _
      rw [Array.empty_append]; rfl
    rw [h2]; exact this
theorem builtin_goes (F : Fits p P) (hs : Sim P r h w) {b : Builtin} {ats : Array TypeId} {as : List V} {as' : Array Value} {v : V} {h' : H} (ha : VRs r as as'.toList) (e : builtA p b ats.toList as h = some (v, h')) (ty : Nat) (consts : Array Bool) :
    Goes P (StepV P r h w v h') ((builtin b ats ty consts as').run P w) := by
  obtain ⟨v', w', r', h1, h2, h3⟩ := builtA_sound F hs ha e ty consts
  rw [h1]
  exact ⟨r', h2, h3⟩
set_option maxHeartbeats 2000000 in
theorem execA_sound (F : Fits p P) {cal : Cal} (hcal : CalOk P cal) (hs : Sim P r h w) {o : Oper} {env : T V} {a : Act} {v : V} {h' : H} (hop : ∀ x ∈ o.op.operands.toList, VR r (opd env x) (a.eval x)) (e : execA o.op p cal env h = some (v, h')) (ro : Option Nat) :
    Goes P (StepV P r h w v h') ((o.semAt ro a.eval).run P w) := by
  obtain ⟨dst, op, ty, gd, af, line⟩ := o
  have hsem : ∀ o : Oper, (∀ c, o.op ≠ .defer c) → o.semAt ro a.eval = execOp a.eval o := fun o ho => Oper.semAt_eq ro a.eval o ho
  simp only [] at hop e
  cases op <;> simp only [execA, xNone] at e <;> try (cases e; done)
  all_goals (rw [hsem _ (fun c => by simp)])
  case move x =>
    simp only [xMove, opk_eq, ret1, Option.some.injEq, Prod.mk.injEq] at e
    obtain ⟨rfl, rfl⟩ := e
    exact ⟨r, Step.refl hs, hop x (by simp [Op.operands])⟩
  case assign x =>
    simp only [xMove, opk_eq, ret1, Option.some.injEq, Prod.mk.injEq] at e
    obtain ⟨rfl, rfl⟩ := e
    exact ⟨r, Step.refl hs, hop x (by simp [Op.operands])⟩
  case pick c x y =>
    simp only [xPick, opk_eq] at e
    have hc := hop c (by simp [Op.operands])
    have hx := hop x (by simp [Op.operands])
    have hy := hop y (by simp [Op.operands])
    show Goes P _ (Sem.run P (do pure (.value (if ← asBool (a.eval c) then a.eval x else a.eval y)) : Sem Next) w)
    generalize a.eval c = c' at hc
    cases hc' : opd env c <;> rw [hc'] at e hc <;> simp only [pickV] at e <;> try (cases e; done)
    cases hc
    rename_i b
    cases b with
    | true =>
      simp only [ret1, Option.some.injEq, Prod.mk.injEq] at e
      obtain ⟨rfl, rfl⟩ := e
      exact ⟨r, Step.refl hs, hx⟩
    | false =>
      simp only [ret1, Option.some.injEq, Prod.mk.injEq] at e
      obtain ⟨rfl, rfl⟩ := e
      exact ⟨r, Step.refl hs, hy⟩
  case alloc t =>
    simp only [xAlloc] at e
    split at e
    · rename_i z hz
      simp only [newRow_eq, mkPtr, Option.some.injEq, Prod.mk.injEq] at e
      obtain ⟨rfl, rfl⟩ := e
      exact goes_value (alloc_sound F hs hz)
    · cases e
  case box t x =>
    have hx := hop x (by simp [Op.operands])
    simp only [xBox, opk_eq] at e
    have hnt : opd env x ≠ .top := by
      intro hh; rw [hh] at e; cases e
    have e' : newRow h t (opd env x).cells false .no mkPtr = some (v, h') := by
      generalize opd env x = y at e hnt
      cases y <;> first | exact e | exact absurd rfl hnt
    simp only [newRow_eq, mkPtr, Option.some.injEq, Prod.mk.injEq] at e'
    obtain ⟨rfl, rfl⟩ := e'
    exact goes_value (box_sound hs hx hnt)
  case build t ps =>
    simp only [xBuild] at e
    split at e
    · rename_i z hz
      rw [parts_eq'] at e
      refine goes_value (buildR_sound F hs ?_ hz e)
      rw [Array.toList_map]
      exact PartsR_map _ fun x hx => hop x (by simpa [Op.operands] using hx)
    · cases e
  case buildSlice t n ps =>
    simp only [xBuildSlice] at e
    split at e
    · rename_i et hu
      split at e
      · rename_i s z hsz hz
        simp only [ble_iff, beq_iff, len_eq] at e
        by_cases hc : n * s ≤ 16777216 ∧ z.cells.length = s
        · have hcd : (decide (n.mul s ≤ 16777216) && decide (z.cells.length = s)) = true := by
            rw [Bool.and_eq_true]; exact ⟨decide_eq_true hc.1, decide_eq_true hc.2⟩
          rw [hcd] at e
          simp only [] at e
          rw [parts_eq'] at e
          cases hf : fillAll (fun i => some (Nat.mul i s, s)) (rep n z.cells) (ps.toList.map fun (i, x) => (i, opd env x)) with
          | none => rw [hf] at e; cases e
          | some out =>
            rw [hf] at e
            simp only [sliceR, newRow_eq, Option.some.injEq, Prod.mk.injEq] at e
            obtain ⟨rfl, rfl⟩ := e
            refine goes_value (buildSlice_sound F hs ?_ hu hsz hz hc.1 hc.2 hf)
            rw [Array.toList_map]
            exact PartsR_map _ fun x hx => hop x (by simpa [Op.operands] using hx)
        · have hcd : (decide (n.mul s ≤ 16777216) && decide (z.cells.length = s)) = false := by
            rw [Bool.eq_false_iff]; intro hh; rw [Bool.and_eq_true] at hh
            exact hc ⟨of_decide_eq_true hh.1, of_decide_eq_true hh.2⟩
          rw [hcd] at e; cases e
      · cases e
    · cases e
  case load t x =>
    simp only [xLoad, opk_eq] at e
    obtain ⟨e1, rfl⟩ := exV_some e
    exact goes_value (.same hs (run_loadP F hs (hop x (by simp [Op.operands])) e1))
  case store t x y =>
    simp only [xStore, opk_eq] at e
    obtain ⟨e1, rfl⟩ := exH_some e
    exact goes_skip (run_storeP F hs (hop x (by simp [Op.operands])) (hop y (by simp [Op.operands])) e1)
  case nilCheck x =>
    simp only [xNil, opk_eq] at e
    have hx := hop x (by simp [Op.operands])
    unfold execOp
    simp only []
    generalize a.eval x = x' at hx
    generalize opd env x = y at hx e
    cases hx <;> simp only [nilV] at e <;> try (cases e; done)
    all_goals (simp only [Option.some.injEq, Prod.mk.injEq] at e; obtain ⟨rfl, rfl⟩ := e)
    · exact ⟨r, Step.refl hs, .bool _⟩
    · exact ⟨r, Step.refl hs, .int _ _⟩
    · exact ⟨r, Step.refl hs, .str _⟩
    · rename_i hr; exact ⟨r, Step.refl hs, .ptr hr⟩
    · exact ⟨r, Step.refl hs, .nils⟩
    · rename_i hr; exact ⟨r, Step.refl hs, .sl hr⟩
    · rename_i hr hc; exact ⟨r, Step.refl hs, .slo _ hr hc⟩
    · exact ⟨r, Step.refl hs, .sl0 _ _⟩
    · exact ⟨r, Step.refl hs, .nilm⟩
    · rename_i hr; exact ⟨r, Step.refl hs, .map hr⟩
    · rename_i ha hb; exact ⟨r, Step.refl hs, .func ha hb⟩
    · rename_i hr; exact ⟨r, Step.refl hs, .yield hr⟩
    · rename_i hr; exact ⟨r, Step.refl hs, .iface hr⟩
    · rename_i hr; exact ⟨r, Step.refl hs, .agg hr⟩
    · rename_i hr; exact ⟨r, Step.refl hs, .tup hr⟩
  case binOp op t x y pos =>
    simp only [xBin, opk_eq] at e
    have hx := hop x (by simp [Op.operands])
    have hy := hop y (by simp [Op.operands])
    cases hg : guardOk p op t x y (opd env x) (opd env y) with
    | false => rw [hg] at e; cases e
    | true =>
      rw [hg] at e
      obtain ⟨e1, rfl⟩ := exV_some e
      obtain ⟨v', h1, h2⟩ := binA_sound F hs hx hy e1
      refine goes_value (s := do eqGuard op t x y (a.eval x) (a.eval y); binOp op t (a.eval x) (a.eval y)) (.same hs ⟨v', ?_, h2⟩)
      rw [Sem.run_bind, guardOk_sound F hx hy hg]
      exact h1
  case unOp op t x =>
    simp only [xUn, opk_eq] at e
    obtain ⟨e1, rfl⟩ := exV_some e
    exact goes_value (.same hs (unA_sound (hop x (by simp [Op.operands])) e1))
  case convert s d x =>
    simp only [xConv, opk_eq] at e
    exact goes_value (convA_sound F hs (hop x (by simp [Op.operands])) e)
  case makeInterface t x =>
    simp only [xIface, opk_eq] at e
    exact goes_value (iface_sound F hs (hop x (by simp [Op.operands])) e)
  case makeFunc fn as bs =>
    simp only [xFunc] at e
    split at e
    · rename_i f
      simp only [opks_eq, Option.some.injEq, Prod.mk.injEq] at e
      obtain ⟨rfl, rfl⟩ := e
      refine ⟨r, Step.refl hs, .func ?_ ?_⟩
      · rw [Array.toList_map]; exact VRs_map _ fun x hx => hop x (by simp [Op.operands]; exact .inl (by simpa using hx))
      · rw [Array.toList_map]; exact VRs_map _ fun x hx => hop x (by simp [Op.operands]; exact .inr (by simpa using hx))
    · cases e
  case makeMap t x =>
    cases x with
    | none =>
      simp only [xMap] at e
      exact goes_value (makeMap_sound F hs (rv := none) (fun x hx => by cases hx) e)
    | some x =>
      simp only [xMap, opk_eq] at e
      have hx := hop x (by simp [Op.operands])
      refine goes_value (makeMap_sound F hs (rv := some (a.eval x)) (fun y hy => ?_) ?_)
      · cases hy
        generalize a.eval x = x' at hx
        generalize opd env x = y at hx e
        cases hx <;> simp only [mapHint] at e <;> try (cases e; done)
        exact ⟨_, _, rfl⟩
      · generalize opd env x = y at e
        cases y <;> first | exact e | (simp [mapHint] at e; done)
  case makeSlice t n c =>
    simp only [xSlice0, opk_eq] at e
    split at e
    · rename_i et n1 c1 hu hn hc
      obtain ⟨k, hk⟩ := natOf_sound (hop n (by simp [Op.operands])) hn
      obtain ⟨k', hk'⟩ := natOf_sound (hop c (by simp [Op.operands])) hc
      refine goes_value (s := Instr.makeSlice t (a.eval n) (a.eval c)) ?_
      rw [hk, hk']
      exact mkSl_sound F hs hu e
    · cases e
  case slice t x lo hi mx =>
    simp only [xSlice, opk_eq, opkO_eq] at e
    obtain ⟨e1, rfl⟩ := exV_some e
    refine goes_value (.same hs (sliceA_sound F hs (hop x (by simp [Op.operands])) (OptR_map lo fun y hy => hop y ?_) (OptR_map hi fun y hy => hop y ?_) (OptR_map mx fun y hy => hop y ?_) e1))
    all_goals subst hy; simp [Op.operands]
  case fieldAddr t x f =>
    simp only [xFieldAddr] at e
    split at e
    · rename_i fl hf
      simp only [opk_eq] at e
      exact goes_value (faR_sound F hs (hop x (by simp [Op.operands])) hf e)
    · cases e
  case field t x f =>
    simp only [xField] at e
    split at e
    · rename_i fl hf
      simp only [opk_eq] at e
      exact goes_value (fR_sound F hs (hop x (by simp [Op.operands])) hf e)
    · cases e
  case indexAddr t x i =>
    simp only [xIdxAddr, opk_eq] at e
    obtain ⟨e1, rfl⟩ := exV_some e
    exact goes_value (.same hs (idxAddr_sound F (hop x (by simp [Op.operands])) (hop i (by simp [Op.operands])) e1))
  case index t x i =>
    simp only [xIndex, opk_eq] at e
    obtain ⟨e1, rfl⟩ := exV_some e
    exact goes_value (.same hs (indexA_sound F (hop x (by simp [Op.operands])) (hop i (by simp [Op.operands])) e1))
  case lookup t x k ok =>
    simp only [xLookup, opk_eq] at e
    obtain ⟨e1, rfl⟩ := exV_some e
    exact goes_value (.same hs (lookA_sound F hs (hop x (by simp [Op.operands])) (hop k (by simp [Op.operands])) e1))
  case mapUpdate t m k x =>
    simp only [xUpd, opk_eq] at e
    obtain ⟨e1, rfl⟩ := exH_some e
    exact goes_skip (updA_sound F hs (hop m (by simp [Op.operands])) (hop k (by simp [Op.operands])) (hop x (by simp [Op.operands])) e1)
  case insert t m k x =>
    simp only [xUpd, opk_eq] at e
    obtain ⟨e1, rfl⟩ := exH_some e
    exact goes_skip (updA_sound F hs (hop m (by simp [Op.operands])) (hop k (by simp [Op.operands])) (hop x (by simp [Op.operands])) e1)
  case range t x =>
    simp only [xRange, opk_eq] at e
    exact goes_value (rangeR_sound F hs (hop x (by simp [Op.operands])) e)
  case next x isStr =>
    simp only [xNext, opk_eq] at e
    exact goes_value (nextA_sound hs (hop x (by simp [Op.operands])) e)
  case extract x i =>
    simp only [xExtract, opk_eq] at e
    have hx := hop x (by simp [Op.operands])
    refine goes_value (s := Instr.extract (a.eval x) i) ?_
    generalize a.eval x = x' at hx
    generalize opd env x = y at hx e
    cases hx <;> simp only [extR] at e <;> try (cases e; done)
    rename_i vs cs hvs
    obtain ⟨e1, rfl⟩ := exV_some e
    rw [nth_eq] at e1
    obtain ⟨v', h1, h2⟩ := hvs.get e1
    rw [Array.getElem?_toList] at h1
    exact .same hs ⟨v', by simp [Instr.extract, h1], h2⟩
  case call c =>
    obtain ⟨callee, args, ats⟩ := c
    simp only [xCall] at e
    have hargs : VRs r (args.toList.map (opd env)) (args.map a.eval).toList := by
      rw [Array.toList_map]; exact VRs_map _ fun x hx => hop x (by cases callee <;> simp [Op.operands, Call.operands] <;> first | exact .inr (by simpa using hx) | (simpa using hx))
    cases callee <;> simp only [calleeX, xNone] at e <;> try (cases e; done)
    case value f =>
      simp only [callF, opks_eq, opk_eq] at e
      have hf : VR r (opd env f) (a.eval f) := hop f (by simp [Op.operands, Call.operands])
      have hg := call_goes hcal hs hf hargs e
      exact hg
    case builtin b =>
      simp only [callB, opks_eq] at e
      exact builtin_goes F hs hargs e ty _
end Go.Am
