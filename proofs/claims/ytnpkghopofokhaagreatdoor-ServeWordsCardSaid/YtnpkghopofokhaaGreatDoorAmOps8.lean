/- A part of the abstract machine, or of a proof over it. -/
import Derived.Test.YtnpkghopofokhaaGreatDoorAmOps7
import Derived.Test.YtnpkghopofokhaaGreatDoorAmBeq
namespace Go.Am
variable {p : Pg} {P : Program} {r : Ren} {h : H} {w : World}

/-! ### Maps -/
theorem run_obj_map {b : Nat} {es : Array MapEntry} {clock : Nat} (hb : w.heap[b]? = some (.map es clock)) : (getObj b).run P w = .ok (.map es clock) w := by simp [getObj, Sem.run, hb]
theorem run_put_map {b : Nat} {es : Array MapEntry} {clock : Nat} (o : Go.Obj) (hb : w.heap[b]? = some (.map es clock)) : (setObj b o).run P w = .ok () { w with heap := w.heap.setIfInBounds b o } := by simp [setObj, Sem.run, hb]
theorem sameNow_run {t : Nat} {u : TypeDesc} {x y : Value} {c : Bool} {D : Nat} (hu : P.underlying t = some u) (e : Instr.sameNow u x y = some c) : (Op.equalIn (D + 1) t x y).run P w = .ok c w := by
  unfold Instr.sameNow at e
  split at e
  · rename_i k a k' b
    split at e
    · rename_i hk; subst hk; simp only [Option.some.injEq] at e; subst e; simp [Op.equalIn, run_underlying hu]
    · cases e
  · simp only [Option.some.injEq] at e; subst e; simp [Op.equalIn, run_underlying hu]
  · simp only [Option.some.injEq] at e; subst e; simp [Op.equalIn, run_underlying hu]
  · cases e
inductive FoundR (r : Ren) : Option (Nat × V) → Option (Nat × Value) → Prop
  | none : FoundR r none none
  | some {i : Nat} {v : V} {v' : Value} (h : VR r v v') : FoundR r (some (i, v)) (some (i, v'))
theorem findNow_eq {kt : Nat} {u : TypeDesc} {k : Value} (hu : P.underlying kt = some u) : ∀ (es : List MapEntry) (i : Nat) (o o' : Option (Nat × Value)) (w' : World), Instr.findNow u k es i = some o → (Instr.findAsking kt k es i).run P w = .ok o' w' → o = o' ∧ w' = w
  | [], i, o, o', w', e, e' => by
    simp only [Instr.findNow, Option.some.injEq] at e; subst e
    simp only [Instr.findAsking, Sem.run_pure, Result.ok.injEq] at e'
    exact ⟨e'.1, e'.2.symm⟩
  | x :: es, i, o, o', w', e, e' => by
    simp only [Instr.findNow] at e
    cases hs : Instr.sameNow u k x.key with
    | none => rw [hs] at e; cases e
    | some c =>
      rw [hs] at e
      have hr : (Op.equal kt k x.key).run P w = .ok c w := sameNow_run hu hs
      simp only [Instr.findAsking, Sem.run_bind, hr, Result.andThen_ok] at e'
      cases c with
      | true =>
        simp only [Option.some.injEq] at e; subst e
        simp only [if_true, Sem.run_pure, Result.ok.injEq] at e'
        exact ⟨e'.1, e'.2.symm⟩
      | false =>
        simp only [Bool.false_eq_true, if_false] at e'
        exact findNow_eq hu es (i + 1) o o' w' e e'
theorem maxDepth_ge : 40 ≤ Op.maxDepth := by decide
theorem findK_sound (F : Fits p P) (hs : Sim P r h w) {kt : Nat} {k : V} {k' : Value} (hk : VR r k k') : ∀ {es : List (V × V × Nat)} {es' : List MapEntry} {i : Nat} {o : Option (Nat × V)}, EntsR r es es' → findK p h kt k es i = some o →
    ∃ o', (Instr.findAsking kt k' es' i).run P w = .ok o' w ∧ FoundR r o o' ∧ (∀ j v, o = some (j, v) → i ≤ j ∧ ∃ e e', es[j - i]? = some e ∧ es'[j - i]? = some e' ∧ e.2.2 = e'.born ∧ VR r e.1 e'.key)
  | _, _, i, o, .nil, e => by
    simp only [findK, Option.some.injEq] at e; subst e
    exact ⟨none, by simp [Instr.findAsking], .none, fun j v hh => by cases hh⟩
  | _, _, i, o, .cons (k := kk) (v := vv) (e := en) (l := l) (l' := l') hkk hvv t, e => by
    simp only [findK] at e
    cases he : eqV p h 40 kt k kk with
    | none => rw [he] at e; cases e
    | some c =>
      rw [he] at e
      have hr : (Op.equal kt k' en.key).run P w = .ok c w := eqV_sound F hs 40 kt k kk c he _ _ hk hkk _ maxDepth_ge
      cases c with
      | true =>
        simp only [Option.some.injEq] at e; subst e
        refine ⟨some (i, en.val), by simp [Instr.findAsking, hr], .some hvv, fun j v hh => ?_⟩
        simp only [Option.some.injEq, Prod.mk.injEq] at hh
        obtain ⟨rfl, rfl⟩ := hh
        exact ⟨Nat.le_refl _, (kk, vv, en.born), en, by simp, by simp, rfl, hkk⟩
      | false =>
        obtain ⟨o', h1, h2, h3⟩ := findK_sound F hs hk t e
        refine ⟨o', by simp only [Instr.findAsking, Sem.run_bind, hr, Result.andThen_ok, Bool.false_eq_true, if_false]; exact h1, h2, fun j v hh => ?_⟩
        obtain ⟨h4, e1, e2, h5, h6, h7⟩ := h3 j v hh
        replace h4 : i + 1 ≤ j := h4
        have hsub : j - i = (j - (i + 1)) + 1 := by omega
        refine ⟨by omega, e1, e2, ?_, ?_, h7⟩
        · rw [hsub, List.getElem?_cons_succ]; exact h5
        · rw [hsub, List.getElem?_cons_succ]; exact h6
theorem und_of_key {kt : Nat} {k : V} (e : keyOk p kt k = true) : ∃ u, und p kt = some u := by
  unfold keyOk at e
  cases hu : und p kt with
  | none => rw [hu] at e; simp [basicT] at e
  | some u => exact ⟨u, rfl⟩
theorem findKey_sound (F : Fits p P) (hs : Sim P r h w) {kt : Nat} {k : V} {k' : Value} (hk : VR r k k') (hok : keyOk p kt k = true) {es : List (V × V × Nat)} {es' : List MapEntry} {o : Option (Nat × V)} (hes : EntsR r es es') (e : findK p h kt k es 0 = some o) :
    ∃ o', (Instr.findKey kt k' es').run P w = .ok o' w ∧ FoundR r o o' ∧ (∀ j v, o = some (j, v) → ∃ e e', es[j]? = some e ∧ es'[j]? = some e' ∧ e.2.2 = e'.born ∧ VR r e.1 e'.key) := by
  obtain ⟨u, hu⟩ := und_of_key hok
  obtain ⟨o', h1, h2, h3⟩ := findK_sound F hs hk hes e
  refine ⟨o', ?_, h2, fun j v hh => (h3 j v hh).2⟩
  unfold Instr.findKey
  rw [Sem.run_bind, run_und F hu, Result.andThen_ok]
  cases hf : Instr.findNow u k' es' 0 with
  | none => exact h1
  | some q =>
    obtain ⟨rfl, -⟩ := findNow_eq (und_sound F hu) es' 0 q o' w hf h1
    simp
theorem isAg_basic {t : Nat} (hb : basicT (und p t) = true) : isAg p t = some false := by
  unfold isAg
  cases hu : und p t with
  | none => rw [hu] at hb; simp [basicT] at hb
  | some u => rw [hu] at hb; cases u <;> simp_all [basicT]
theorem run_checkKey_basic (F : Fits p P) {t : Nat} (hb : basicT (und p t) = true) (em : Bool) (n : Nat) (v : Value) : (Instr.checkKey em (n + 1) t v).run P w = .ok () w := by
  cases hu : und p t with
  | none => rw [hu] at hb; simp [basicT] at hb
  | some u =>
    rw [hu] at hb
    unfold Instr.checkKey
    rw [Sem.run_bind, run_und F hu, Result.andThen_ok]
    cases u <;> first | (simp [basicT] at hb; done) | simp
theorem run_forIn_unit {α : Type} {g : α → PUnit → Sem (ForInStep PUnit)} : ∀ (l : List α), (∀ f ∈ l, (g f PUnit.unit).run P w = .ok (.yield PUnit.unit) w) → (forIn l PUnit.unit g).run P w = .ok PUnit.unit w
  | [], _ => by simp
  | f :: fs, hg => by
    rw [List.forIn_cons, Sem.run_bind, hg f (by simp)]
    exact run_forIn_unit fs fun x hx => hg x (by simp [hx])
theorem basics_mem : ∀ {fs : List Field}, basics p fs = true → ∀ f ∈ fs, basicT (und p f.type) = true
  | [], _, f, hf => by simp at hf
  | g :: fs, hb, f, hf => by
    simp only [basics] at hb
    cases hbt : basicT (und p g.type) with
    | false => rw [hbt] at hb; cases hb
    | true =>
      rw [hbt] at hb
      rcases List.mem_cons.1 hf with rfl | hf
      · exact hbt
      · exact basics_mem hb f hf
theorem checkKey_sound (F : Fits p P) {kt : Nat} {k : V} {k' : Value} (hk : VR r k k') (hok : keyOk p kt k = true) (em : Bool) : (Instr.checkKey em 10000 kt k').run P w = .ok () w := by
  obtain ⟨u, hu⟩ := und_of_key hok
  unfold keyOk at hok
  rw [hu] at hok
  cases u <;> simp only [] at hok <;> try exact run_checkKey_basic F (by rw [hu]; exact hok) em 9999 k'
  rename_i fs
  cases k <;> simp only [] at hok <;> try (cases hok; done)
  rename_i cs
  cases hk with | agg hcs =>
  rename_i cs'
  cases hm : memN kt p.cmp && basics p fs.toList with
  | false => rw [hm] at hok; cases hok
  | true =>
    rw [hm] at hok
    simp only [beq_iff, len_eq, decide_eq_true_eq] at hok
    rw [Bool.and_eq_true] at hm
    obtain ⟨hst, fs', hfs, hff⟩ := F.cmp kt ((memN_iff _ _).1 hm.1)
    rw [und_sound F hu] at hfs; cases hfs
    rw [show (10000 : Nat) = 9999 + 1 from rfl]
    unfold Instr.checkKey
    rw [Sem.run_bind, run_und F hu, Result.andThen_ok]
    simp only [← Array.forIn_toList]
    rw [Sem.run_bind, run_forIn_unit (P := P) (w := w) fs.toList, Result.andThen_ok, Sem.run_pure]
    intro f hf
    have hbt := basics_mem hm.2 f hf
    have hlt : f.offset < cs.length := by
      obtain ⟨i, hi⟩ := List.getElem?_of_mem hf
      have := (hff i f (by simpa using hi)).2
      rw [this, hok]
      exact (List.getElem?_eq_some_iff.1 hi).1
    have hpt : Am.part p f.type cs f.offset = some cs[f.offset] := by
      unfold Am.part; rw [isAg_basic hbt]; simp [nth_eq, List.getElem?_eq_getElem hlt]
    obtain ⟨v', k1, k2⟩ := run_part F hcs hpt w
    by_cases hn : f.name = "_"
    · simp [hn]
    · simp [hn, k1, run_checkKey_basic F hbt]
theorem lookK_sound (F : Fits p P) {et : Nat} {ok : Bool} {o : Option (Nat × V)} {o' : Option (Nat × Value)} {v : V} (ho : FoundR r o o') (e : lookK (zeroOf p et) ok o = some v) :
    ∃ v', (do
      let (v, ok') ← match o' with
        | some (_, v) => pure (v, true)
        | none => pure (← zeroValue et, false)
      pure (if ok then .tuple #[v, .bool ok'] else v) : Sem Value).run P w = .ok v' w ∧ VR r v v' := by
  cases ho with
  | none =>
    simp only [lookK] at e
    cases hz : zeroOf p et with
    | none => rw [hz] at e; cases e
    | some z =>
      rw [hz] at e
      obtain ⟨i, z', hi, hiz, hzr, -⟩ := zeroOf_sound F r hz
      simp only [Option.some.injEq] at e; subst e
      cases ok with
      | true => exact ⟨.tuple #[z', .bool false], by simp [run_zero hi hiz], .tup (.cons hzr (.cons (.bool false) .nil))⟩
      | false => exact ⟨z', by simp [run_zero hi hiz], hzr⟩
  | some hv =>
    simp only [lookK, Option.some.injEq] at e; subst e
    rename_i v1 v1'
    cases ok with
    | true => exact ⟨.tuple #[v1', .bool true], by simp, .tup (.cons hv (.cons (.bool true) .nil))⟩
    | false => exact ⟨v1', by simp, hv⟩
theorem lookA_sound (F : Fits p P) (hs : Sim P r h w) {t : Nat} {x k v : V} {x' k' : Value} {ok : Bool} (hx : VR r x x') (hk : VR r k k') (e : lookA p t x k ok h = some v) :
    ∃ v', (Instr.lookup t x' k' ok).run P w = .ok v' w ∧ VR r v v' := by
  unfold lookA at e
  split at e
  · rename_i kt et hu
    cases hok : keyOk p kt k with
    | false => rw [hok] at e; cases e
    | true =>
      rw [hok] at e
      simp only [] at e
      cases hx with
      | nilm =>
        simp only [] at e
        obtain ⟨v', h1, h2⟩ := lookK_sound (w := w) F .none e
        refine ⟨v', ?_, h2⟩
        obtain ⟨u, hu'⟩ := und_of_key hok
        have hfk : (Instr.findKey kt k' []).run P w = .ok none w := by simp [Instr.findKey, Instr.findNow, run_und F hu']
        rw [← h1]
        unfold Instr.lookup
        simp only [Sem.run_bind, run_und F hu, Result.andThen_ok, Sem.run_pure, checkKey_sound F hk hok, hfk]
      | map hr =>
        rename_i l loc
        simp only [lookO] at e
        cases hl : h.get l with
        | none => rw [hl] at e; cases e
        | some ob =>
          rw [hl] at e
          cases ob <;> simp only [] at e <;> try (cases e; done)
          rename_i es clock
          cases hf : findK p h kt k es 0 with
          | none => rw [hf] at e; cases e
          | some o =>
            rw [hf] at e
            obtain ⟨-, loc', m, h1, h2, en, rfl, h4⟩ := hs.obj l _ hl
            rw [hr] at h1; cases h1
            obtain ⟨o', h5, h6, -⟩ := findKey_sound F hs hk hok h4 hf
            obtain ⟨v', h7, h8⟩ := lookK_sound (w := w) F h6 e
            refine ⟨v', ?_, h8⟩
            rw [← h7]
            unfold Instr.lookup
            simp only [Sem.run_bind, run_und F hu, Result.andThen_ok, Sem.run_pure, checkKey_sound F hk hok, h5, run_obj_map h2]
            cases h6 <;> rfl
      | _ => cases e
  · cases e
theorem modL_eq {α : Type} (f : α → α) : ∀ (l : List α) (i : Nat), modL f l i = l.modify i f
  | [], i => by cases i <;> rfl
  | a :: l, 0 => rfl
  | a :: l, n + 1 => by simp [modL, modL_eq f l n]
theorem delL_eq {α : Type} : ∀ (l : List α) (i : Nat), delL l i = l.eraseIdx i
  | [], i => rfl
  | a :: l, 0 => rfl
  | a :: l, n + 1 => by simp [delL, delL_eq l n]
theorem EntsR.length : ∀ {l : List (V × V × Nat)} {l' : List MapEntry}, EntsR r l l' → l.length = l'.length
  | _, _, .nil => rfl
  | _, _, .cons _ _ t => by simp [EntsR.length t]
theorem EntsR.append : ∀ {l m : List (V × V × Nat)} {l' m' : List MapEntry}, EntsR r l l' → EntsR r m m' → EntsR r (l ++ m) (l' ++ m')
  | _, _, _, _, .nil, h => h
  | _, _, _, _, .cons a b t, h => .cons a b (t.append h)
theorem EntsR.erase : ∀ {l : List (V × V × Nat)} {l' : List MapEntry}, EntsR r l l' → ∀ i, EntsR r (l.eraseIdx i) (l'.eraseIdx i)
  | _, _, .nil, _ => .nil
  | _, _, .cons _ _ t, 0 => t
  | _, _, .cons a b t, n + 1 => .cons a b (t.erase n)
theorem EntsR.modify {k v : V} {f' : MapEntry → MapEntry} (hf : ∀ e, VR r k (f' e).key ∧ VR r v (f' e).val ∧ (f' e).born = e.born) : ∀ {l : List (V × V × Nat)} {l' : List MapEntry}, EntsR r l l' →
    ∀ (i : Nat) (b : Nat), (∀ e, l[i]? = some e → e.2.2 = b) → EntsR r (l.modify i fun _ => (k, v, b)) (l'.modify i f')
  | _, _, .nil, i, _, _ => by cases i <;> exact .nil
  | _, _, .cons (e := e) (l := l) (l' := l') _ _ t, 0, b, hb => by
    have : e.born = b := hb _ rfl
    subst this
    obtain ⟨h1, h2, h3⟩ := hf e
    have := EntsR.cons h1 h2 t
    rw [h3] at this
    exact this
  | _, _, .cons a b t, n + 1, b', hb => .cons a b (t.modify hf n b' fun e he => hb e (by simpa using he))
theorem keyStays_sound {k : V} {old new : Value} (h1 : VR r k old) (h2 : VR r k new) : ∃ k' d, (Instr.keyThatStays old new).run P w = .ok k' { w with drawn := d } ∧ VR r k k' := by
  unfold Instr.keyThatStays
  rw [Sem.run_ite]
  split
  · exact ⟨new, w.drawn, rfl, h2⟩
  · rw [Sem.run_bind, run_choose]
    split
    · exact ⟨new, w.drawn, by simp, h2⟩
    · by_cases hc : Question.cut (.extern "map.whichKeyStays" 2) (w.tape w.drawn (.extern "map.whichKeyStays" 2)) = 0
      · exact ⟨new, w.drawn + 1, by simp [hc], h2⟩
      · exact ⟨old, w.drawn + 1, by simp [hc], h1⟩
theorem updA_sound (F : Fits p P) (hs : Sim P r h w) {t : Nat} {m k v : V} {m' k' v' : Value} {h' : H} (hm : VR r m m') (hk : VR r k k') (hv : VR r v v') (e : updA p t m k v h = some h') :
    ∃ w', (Instr.mapUpdate t m' k' v').run P w = .ok () w' ∧ Step P r h w r h' w' := by
  unfold updA at e
  split at e
  · rename_i kt et hu
    cases hok : keyOk p kt k with
    | false => rw [hok] at e; cases e
    | true =>
      rw [hok] at e
      cases hm with
      | map hr =>
        rename_i l loc
        simp only [] at e
        cases hl : h.get l with
        | none => rw [hl] at e; cases e
        | some ob =>
          rw [hl] at e
          cases ob <;> simp only [] at e <;> try (cases e; done)
          rename_i es clock
          cases hf : findK p h kt k es 0 with
          | none => rw [hf] at e; cases e
          | some o =>
            rw [hf] at e
            obtain ⟨-, loc', mo, h1, h2, en, rfl, h4⟩ := hs.obj l _ hl
            rw [hr] at h1; cases h1
            obtain ⟨o', h5, h6, h7⟩ := findKey_sound F hs hk hok h4 hf
            have hbl : loc.blk < w.heap.size := (Array.getElem?_eq_some_iff.1 h2).1
            cases h6 with
            | none =>
              simp only [forceL_eq, forceNat_eq, H.set_eq, Option.some.injEq] at e; subst e
              refine ⟨{ w with heap := w.heap.setIfInBounds loc.blk (.map (en.push { key := k', val := v', born := clock }) (clock + 1)) }, ?_, ?_⟩
              · unfold Instr.mapUpdate
                simp only [Sem.run_bind, run_und F hu, Result.andThen_ok, checkKey_sound F hk hok, h5, run_obj_map h2, run_put_map _ h2]
              · refine hs.set hl (fun _ _ hh => by cases hh) hr (by simp) (m' := .map (en.push { key := k', val := v', born := clock }) (clock + 1)) (by simp [hbl]) (fun b hb => by simp [Array.getElem?_setIfInBounds_ne (Ne.symm hb)]) ?_ rfl rfl rfl
                refine ⟨_, rfl, ?_⟩
                rw [Array.toList_push]
                exact h4.append (.cons (e := ⟨k', v', clock⟩) hk hv .nil)
            | some hvv =>
              rename_i i v1 v1'
              simp only [nth_eq] at e
              obtain ⟨e1, e2, k1, k2, k3, k4⟩ := h7 i v1 rfl
              rw [k1] at e
              obtain ⟨ek, ev, eb⟩ := e1
              simp only [] at e
              cases hbq : beqV 40 k ek with
              | false => rw [hbq] at e; cases e
              | true =>
                rw [hbq] at e
                simp only [forceL_eq, H.set_eq, modL_eq, Option.some.injEq] at e; subst e
                obtain ⟨ks, d, q1, q2⟩ := keyStays_sound (P := P) (w := w) (beqV_sound 40 k ek hbq _ k4) hk
                refine ⟨{ w with drawn := d, heap := w.heap.setIfInBounds loc.blk (.map (en.modify i fun e => { e with key := ks, val := v' }) clock) }, ?_, ?_⟩
                · unfold Instr.mapUpdate
                  have h2' : ({ w with drawn := d } : World).heap[loc.blk]? = some (.map en clock) := h2
                  rw [Array.getElem?_toList] at k2
                  simp only [Sem.run_bind, run_und F hu, Result.andThen_ok, checkKey_sound F hk hok, h5, run_obj_map h2, k2, Option.map_some, Option.getD_some, q1, run_put_map _ h2']
                · refine (Step.drew hs d).trans ((Step.drew hs d).sim.set hl (fun _ _ hh => by cases hh) hr (by simp) (m' := .map (en.modify i fun e => { e with key := ks, val := v' }) clock) (by simp [hbl]) (fun b hb => by simp [Array.getElem?_setIfInBounds_ne (Ne.symm hb)]) ?_ rfl rfl rfl)
                  refine ⟨_, rfl, ?_⟩
                  rw [Array.toList_modify]
                  exact EntsR.modify (k := k) (v := v) (f' := fun e => { e with key := ks, val := v' }) (fun e => ⟨q2, hv, rfl⟩) h4 i eb fun e he => by rw [k1] at he; cases he; rfl
      | _ => simp at e
  · cases e
/-- An entry taken out. -/
theorem delete_sound (F : Fits p P) (hs : Sim P r h w) {kt et t : Nat} {k : V} {m k' : Value} {l clock i : Nat} {v1 : V} {es : List (V × V × Nat)} (hu : und p t = some (.map kt et)) (hok : keyOk p kt k = true) (hm : VR r (.map l) m) (hk : VR r k k')
    (hl : h.get l = some (.mapo es clock)) (hf : findK p h kt k es 0 = some (some (i, v1))) (ty : Nat) :
    Does P r h w (Builtin.delete_ #[t] ty #[m, k']) (.tup []) (h.setD l (.mapo (es.eraseIdx i) clock)) := by
  cases hm with | map hr =>
  rename_i loc
  obtain ⟨-, loc', mo, h1, h2, en, rfl, h4⟩ := hs.obj l _ hl
  rw [hr] at h1; cases h1
  obtain ⟨o', h5, h6, h7⟩ := findKey_sound F hs hk hok h4 hf
  have hbl : loc.blk < w.heap.size := (Array.getElem?_eq_some_iff.1 h2).1
  cases h6 with | some hvv =>
  refine ⟨.tuple #[], { w with heap := w.heap.setIfInBounds loc.blk (.map (en.eraseIdxIfInBounds i) clock) }, r, ?_, ?_, .tup .nil⟩
  · unfold Builtin.delete_
    simp [run_und F hu, checkKey_sound F hk hok, h5, run_obj_map h2, run_put_map _ h2]
  · refine hs.set hl (fun _ _ hh => by cases hh) hr (by simp) (m' := .map (en.eraseIdxIfInBounds i) clock) (by simp [hbl]) (fun b hb => by simp [Array.getElem?_setIfInBounds_ne (Ne.symm hb)]) ?_ rfl rfl rfl
    refine ⟨_, rfl, ?_⟩
    have : (en.eraseIdxIfInBounds i).toList = en.toList.eraseIdx i := by
      unfold Array.eraseIdxIfInBounds
      split
      · simp
      · rename_i hh; rw [List.eraseIdx_of_length_le (by simpa using hh)]
    rw [this]
    exact h4.erase i
theorem delete_none (F : Fits p P) (hs : Sim P r h w) {kt et t : Nat} {k : V} {m k' : Value} {l clock : Nat} {es : List (V × V × Nat)} (hu : und p t = some (.map kt et)) (hok : keyOk p kt k = true) (hm : VR r (.map l) m) (hk : VR r k k')
    (hl : h.get l = some (.mapo es clock)) (hf : findK p h kt k es 0 = some none) (ty : Nat) :
    Does P r h w (Builtin.delete_ #[t] ty #[m, k']) (.tup []) h := by
  cases hm with | map hr =>
  rename_i loc
  obtain ⟨-, loc', mo, h1, h2, en, rfl, h4⟩ := hs.obj l _ hl
  rw [hr] at h1; cases h1
  obtain ⟨o', h5, h6, h7⟩ := findKey_sound F hs hk hok h4 hf
  have hbl : loc.blk < w.heap.size := (Array.getElem?_eq_some_iff.1 h2).1
  cases h6 with | none =>
  refine ⟨.tuple #[], w, r, ?_, .refl hs, .tup .nil⟩
  unfold Builtin.delete_
  have : w.heap.setIfInBounds loc.blk (.map en clock) = w.heap := by
    apply Array.ext_getElem?
    intro i
    by_cases hi : i = loc.blk
    · rw [hi, h2]; simp [hbl]
    · rw [Array.getElem?_setIfInBounds_ne (Ne.symm hi)]
  simp [run_und F hu, checkKey_sound F hk hok, h5, run_obj_map h2, run_put_map _ h2, this]
end Go.Am
