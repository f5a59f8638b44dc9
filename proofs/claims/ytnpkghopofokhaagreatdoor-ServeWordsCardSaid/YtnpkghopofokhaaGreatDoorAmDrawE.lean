/- A part of the abstract machine, or of a proof over it. -/
import Derived.Test.YtnpkghopofokhaaGreatDoorAmDraw
namespace Go.Am
variable {p : Pg} {P : Program} {r : Ren} {h : H} {w : World}
theorem alloc_run (Fi : Fits p P) {t : Nat} {z : V} (hz : zeroOf p t = some z) (r : Ren) (w : World) : ∃ cs : List Value, VRs r z.cells cs ∧ (Instr.alloc t true (.tuple #[])).run P w = .ok (.pointer (some ⟨w.heap.size, 0, none⟩)) { w with heap := w.heap.push (.cells cs.toArray t) } := by
  obtain ⟨i, z', hi, hiz, hzr, hnt⟩ := zeroOf_sound Fi r hz
  refine ⟨z'.cells.toList, hzr.cells hnt, ?_⟩
  simp [Instr.alloc, run_zero hi hiz, Go.newVar, Go.newRow]
theorem binds_eq (e : Edge) : Region.binds .any e = bindsA e := by
  unfold Region.binds bindsA
  cases e.ground <;> rfl
section
variable {cal : Cal} {ops : Array Oper} {E : Nat → T V} {hs : Nat → H} {fb : Nat → Nat} {val : Nat → V} {r0 : Ren} {h0 : H} {w0 : World} {a0 : Act} {S : Nat → Prop} {j : Nat} {B : Nat → Nat} {a : Act}
theorem Nxt.rankEq (G : Reg p P cal ops r0 h0 w0 a0 E hs fb val) (I : Inv p P ops r0 h0 w0 a0 E hs fb S j B r a w) {i : Nat} {o : Oper} (N : Nxt p ops S j i o) (he : isEff p o.op = true) (hnf : isFlt o.op = false) : rank p ops.toList i = j := by
  have hr := es_rank (p := p) N.at_ he
  rcases Nat.lt_trichotomy (rank p ops.toList i) j with hlt | heq | hgt
  · exact absurd (I.pre _ i hlt hr) N.not
  · exact heq
  · exfalso
    have hlen := (List.getElem?_eq_some_iff.1 hr).1
    have hj : (effIdx p ops.toList 0)[j]? = some ((effIdx p ops.toList 0)[j]'(by omega)) := by simp
    exact N.stop _ hj (N.up _ (G.chain i o N.at_ he hnf _ (List.mem_of_getElem? hj) (es_lt hj hr hgt)))
theorem draw_op (Fi : Fits p P) (hcal : CalOk P cal) {F : Fence} (hF : Open F) {n : Nat} {Q : Exit → Act → World → Prop} {K : Act → World → Prop} (G : Reg p P cal ops r0 h0 w0 a0 E hs fb val) (I : Inv p P ops r0 h0 w0 a0 E hs fb S j B r a w) {i : Nat} {o : Oper} (N : Nxt p ops S j i o)
    (hK : ∀ j' B' r' a' w', Inv p P ops r0 h0 w0 a0 E hs fb (fun k => S k ∨ k = i) j' B' r' a' w' → (∀ e, (effIdx p ops.toList 0)[j']? = some e → ¬ (S e ∨ e = i)) → K a' w') : wpOpIn F n P ops Q i K a w := by
  have hoi : ops[i]? = some o := by rw [← Array.getElem?_toList]; exact N.at_
  have fin : ∀ j1 B1 r1 a1 w1, Inv p P ops r0 h0 w0 a0 E hs fb (fun k => S k ∨ k = i) j1 B1 r1 a1 w1 → K a1 w1 := by
    intro j1 B1 r1 a1 w1 I1
    obtain ⟨j', r', I', hstop⟩ := I1.absorb G _ _ _ _ rfl
    exact hK j' B1 r' a1 w1 I' hstop
  unfold wpOpIn
  rw [hoi]
  simp only []
  have hT := (G.op i o N.at_).2
  have hgl := (opsOk_get G.ok N.at_).2
  generalize hv : val i = v at hT
  cases hT with
  | flt hfo hg hop hz hh =>
    rename_i t z
    have hw : Region.wanted o (yielded ops a.tmps) = true := by simp [Region.wanted, hg]
    rw [if_pos hw]
    obtain ⟨cs, hc1, hc2⟩ := alloc_run Fi hz r w
    refine wpIn_of_goes hF (R := fun v' w' => v' = .pointer (some ⟨w.heap.size, 0, none⟩) ∧ w' = { w with heap := w.heap.push (.cells cs.toArray t) }) ?_ ?_
    · have hsem : o.semAt F.round a.eval = execOp a.eval o := Oper.semAt_eq F.round a.eval o fun c => by rw [hop]; simp
      have hex : execOp a.eval o = (do pure (.value (← Instr.alloc t true (.tuple #[]))) : Sem Next) := by unfold execOp; rw [hop]
      rw [hsem, hex, Sem.run_bind, hc2]
      exact ⟨rfl, rfl⟩
    · rintro v' w' ⟨rfl, rfl⟩
      exact fin _ _ _ _ _ (I.newVar G N hfo hop hz hc1)
  | skip hnf hw hh =>
    have hwn := N.guard G I hw
    rw [if_neg (by rw [hwn]; simp)]
    refine ⟨fun f _ => hF.fn f, ?_⟩
    cases he : isEff p o.op with
    | false => exact fin _ _ _ _ _ (I.next G N hnf (.inr ⟨he, rfl⟩) (Step.refl I.step.sim) (by rw [hv]; exact undef_sound r))
    | true =>
      have hrk := N.rankEq G I he hnf
      have hh' := hh he
      rw [hrk] at hh'
      exact fin _ _ _ _ _ (I.next G N hnf (.inl ⟨he, rfl, hrk⟩) (by rw [hh']; exact Step.refl I.step.sim) (by rw [hv]; exact undef_sound r))
  | eff hnf hw he hx =>
    have hwn := N.guard G I hw
    rw [if_pos hwn]
    have hrk := N.rankEq G I he hnf
    rw [hrk] at hx
    refine wpIn_of_goes hF (execA_sound Fi hcal I.step.sim (N.opd G I hgl) hx F.round) ?_
    rintro v' w' ⟨r', hst, hvr⟩
    exact fin _ _ _ _ _ (I.next G N hnf (.inl ⟨he, rfl, hrk⟩) hst (by rw [hv]; exact hvr))
  | pure hnf hw he hx =>
    have hwn := N.guard G I hw
    rw [if_pos hwn]
    have hlo : countLo (nthD (ancs ops.toList []) i) (effIdx p ops.toList 0) ≤ j := by
      rcases Nat.lt_or_ge j (countLo (nthD (ancs ops.toList []) i) (effIdx p ops.toList 0)) with hlt | hge
      · exfalso
        have hlen := countLo_le (a := nthD (ancs ops.toList []) i) (effIdx p ops.toList 0)
        have hj : (effIdx p ops.toList 0)[j]? = some ((effIdx p ops.toList 0)[j]'(by omega)) := by simp
        exact N.stop _ hj (N.up _ (countLo_spec _ _ _ hlt hj))
      · exact hge
    have hhi : j ≤ countHi (ancs ops.toList []) i (effIdx p ops.toList 0) := by
      rcases Nat.lt_or_ge (countHi (ancs ops.toList []) i (effIdx p ops.toList 0)) j with hlt | hge
      · exfalso
        have hlen := I.jle
        have hj : (effIdx p ops.toList 0)[countHi (ancs ops.toList []) i (effIdx p ops.toList 0)]? = some ((effIdx p ops.toList 0)[countHi (ancs ops.toList []) i (effIdx p ops.toList 0)]'(by omega)) := by simp
        have hb := countHi_spec _ _ hj
        have hSe := I.pre _ _ hlt hj
        obtain ⟨o', ho', -⟩ := es_mem (List.mem_of_getElem? hj)
        exact N.not (N.down _ o' ho' hSe i hb)
      · exact hge
    obtain ⟨v1, h1, hx1, hx2⟩ := hx j hlo hhi I.jle
    have hh1 := pure_heap he hx1
    subst hh1
    refine wpIn_of_goes hF (execA_sound Fi hcal I.step.sim (N.opd G I hgl) hx1 F.round) ?_
    rintro v' w' ⟨r', hst, hvr⟩
    exact fin _ _ _ _ _ (I.next G N hnf (.inr ⟨he, rfl⟩) hst (by rw [hv]; exact hx2 _ _ hvr))
/-- How many are not listed yet. -/
def left (l : List Bool) : Nat := l.countP fun b => !b
theorem left_set : ∀ (l : List Bool) (i : Nat), l[i]? = some false → left (l.set i true) + 1 = left l
  | [], _, h => by simp at h
  | b :: l, 0, h => by
    simp only [List.getElem?_cons_zero, Option.some.injEq] at h; subst h
    simp [left]
  | b :: l, i + 1, h => by
    rw [List.getElem?_cons_succ] at h
    have := left_set l i h
    unfold left at this ⊢
    simp only [List.set_cons_succ, List.countP_cons]
    omega
theorem left_zero {l : List Bool} (h : left l = 0) {i : Nat} (hi : i < l.length) : l[i]? = some true := by
  unfold left at h
  rw [List.countP_eq_zero] at h
  have := h (l[i]) (List.getElem_mem hi)
  rw [List.getElem?_eq_getElem hi]
  simpa using this
theorem draw_any (Fi : Fits p P) (hcal : CalOk P cal) {F : Fence} (hF : Open F) {n : Nat} {Q : Exit → Act → World → Prop} (G : Reg p P cal ops r0 h0 w0 a0 E hs fb val)
    (hQ : ∀ r a w, Step P r0 h0 w0 r (hs (effIdx p ops.toList 0).length) w → EnvR r (E ops.toList.length) a.tmps → a.tmps.size = a0.tmps.size → a.defers = a0.defers → Q .normal a w) :
    ∀ (fuel : Nat) (listed : Array Bool) (j : Nat) (B : Nat → Nat) (r : Ren) (a : Act) (w : World), listed.size = ops.size → left listed.toList ≤ fuel → (∀ k o, ops.toList[k]? = some o → listed.getD k false = true → Cl (fun x => listed.getD x false = true) o) →
      Inv p P ops r0 h0 w0 a0 E hs fb (fun k => listed.getD k false = true) j B r a w → (∀ e, (effIdx p ops.toList 0)[j]? = some e → ¬ listed.getD e false = true) → wpAnyIn F n P .any ops Q fuel listed a w := by
  have done : ∀ (listed : Array Bool) (j : Nat) (B : Nat → Nat) (r : Ren) (a : Act) (w : World), (∀ k, k < ops.size → listed.getD k false = true) → listed.size = ops.size →
      Inv p P ops r0 h0 w0 a0 E hs fb (fun k => listed.getD k false = true) j B r a w → (∀ e, (effIdx p ops.toList 0)[j]? = some e → ¬ listed.getD e false = true) → Q .normal a w := by
    intro listed j B r a w hall hsz I hstop
    have hj : j = (effIdx p ops.toList 0).length := by
      rcases Nat.lt_or_ge j (effIdx p ops.toList 0).length with hlt | hge
      · exfalso
        have hj : (effIdx p ops.toList 0)[j]? = some ((effIdx p ops.toList 0)[j]) := by simp
        obtain ⟨o', ho', -⟩ := es_mem (List.mem_of_getElem? hj)
        have := (List.getElem?_eq_some_iff.1 ho').1
        exact hstop _ hj (hall _ (by simpa using this))
      · exact Nat.le_antisymm I.jle hge
    refine hQ r a w (by rw [← hj]; exact I.step) (fun t => I.env t _ (Nat.le_refl _) (fun k o hok _ => ?_) fun f o hof hf hS hjf => ?_) I.size I.defers
    · have hk := (List.getElem?_eq_some_iff.1 hok).1
      exact ⟨fun _ => hk, fun _ => hall k (by simpa using hk)⟩
    · exfalso
      have := (List.getElem?_eq_some_iff.1 (es_rank (p := p) hof (isFlt_eff hf))).1
      omega
  have rdy : ∀ (listed : Array Bool), listed.size = ops.size → Region.ready .any ops listed = [] → ∀ k, k < ops.size → listed.getD k false = true := by
    intro listed hsz hr k
    induction k using Nat.strongRecOn with
    | _ k ih =>
    intro hk
    cases hb : listed.getD k false with
    | true => rfl
    | false =>
      exfalso
      have hmem : k ∈ Region.ready .any ops listed := by
        refine mem_ready.2 ⟨?_, ops[k], by simp, fun e he hbe => ?_⟩
        · rw [Array.getD_eq_getD_getElem?, Array.getElem?_eq_getElem (by omega)] at hb ⊢
          exact hb
        · rw [binds_eq] at hbe
          have hback : ∀ (l : List Oper) (i q : Nat) (o : Oper), backsAll l i = true → l[q]? = some o → backs (i + q) o.after.toList = true := by
            intro l
            induction l with
            | nil => intro i q o _ h; simp at h
            | cons x l ihl =>
              intro i q o h1 h2
              simp only [backsAll, Bool.and_eq_true] at h1
              cases q with
              | zero => simp only [List.getElem?_cons_zero, Option.some.injEq] at h2; subst h2; exact h1.1
              | succ q => rw [List.getElem?_cons_succ] at h2; have := ihl i.succ q o h1.2 h2; rwa [show i.succ + q = i + (q + 1) from by omega] at this
          have h3 := hback _ 0 k ops[k] G.back (by rw [Array.getElem?_toList]; simp)
          rw [Nat.zero_add] at h3
          have h4 := backs_spec _ h3 e (by simpa using he) hbe
          exact ih e.on h4 (by omega)
      rw [hr] at hmem; cases hmem
  intro fuel
  induction fuel with
  | zero =>
    intro listed j B r a w hsz hl hdc I hstop
    have hall : ∀ k, k < ops.size → listed.getD k false = true := fun k hk => by
      have := left_zero (l := listed.toList) (by omega) (i := k) (by simpa using (by omega : k < listed.size))
      rw [Array.getElem?_toList] at this
      rw [Array.getD_eq_getD_getElem?, this]; rfl
    refine ⟨?_, done listed j B r a w hall hsz I hstop⟩
    cases hr : Region.ready .any ops listed with
    | nil => rfl
    | cons i l =>
      exfalso
      have hi : i ∈ Region.ready .any ops listed := by rw [hr]; simp
      obtain ⟨h1, o, h2, -⟩ := mem_ready.1 hi
      have hlt := (Array.getElem?_eq_some_iff.1 h2).1
      have := hall i hlt
      rw [Array.getD_eq_getD_getElem?, Array.getElem?_eq_getElem (by omega)] at this h1
      simp at this h1
      rw [this] at h1; cases h1
  | succ fuel ih =>
    intro listed j B r a w hsz hl hdc I hstop
    refine ⟨fun hr => done listed j B r a w (rdy listed hsz hr) hsz I hstop, fun i hi => ?_⟩
    obtain ⟨h1, o, h2, h3⟩ := mem_ready.1 hi
    have hlt := (Array.getElem?_eq_some_iff.1 h2).1
    have hot : ops.toList[i]? = some o := by rw [Array.getElem?_toList]; exact h2
    have hli : listed.toList[i]? = some false := by
      rw [Array.getElem?_toList]
      rw [Array.getD_eq_getD_getElem?, Array.getElem?_eq_getElem (by omega)] at h1
      rw [Array.getElem?_eq_getElem (by omega)]
      simpa using h1
    have hnot : ¬ listed.getD i false = true := by
      rw [Array.getElem?_toList] at hli
      rw [Array.getD_eq_getD_getElem?, hli]; simp
    have hcl : Cl (fun x => listed.getD x false = true) o := fun e he hb => h3 e (by simpa using he) (by rw [binds_eq]; exact hb)
    have anc := ancs_in (S := fun x => listed.getD x false = true) (all := ops.toList) hdc ops.toList [] rfl G.back (fun i o _ _ k hk => by simp [nthD, nth_eq] at hk)
    have N : Nxt p ops (fun k => listed.getD k false = true) j i o := ⟨hot, hnot, anc i o hot hcl, fun k o' hk hS => anc k o' hk (hdc k o' hk hS), hstop⟩
    have hS' : (fun k => listed.getD k false = true ∨ k = i) = fun k => (listed.setIfInBounds i true).getD k false = true := by
      funext k
      apply propext
      by_cases hki : k = i
      · subst hki
        rw [Array.getD_eq_getD_getElem? (xs := listed.setIfInBounds k true), Array.getElem?_setIfInBounds_self_of_lt (by omega)]
        simp
      · rw [getD_set_ne false (Ne.symm hki)]
        exact ⟨fun h => h.resolve_right hki, .inl⟩
    refine draw_op Fi hcal hF G I N fun j' B' r' a' w' I' hstop' => ?_
    rw [hS'] at I'
    refine ih (listed.setIfInBounds i true) j' B' r' a' w' (by simpa using hsz) ?_ (fun k o' hk hSk e he hb => ?_) I' fun e he => ?_
    · have := left_set listed.toList i hli
      rw [Array.toList_setIfInBounds]
      omega
    · have hSk' : listed.getD k false = true ∨ k = i := (congrFun hS' k).symm ▸ hSk
      have hin : listed.getD e.on false = true := by
        rcases hSk' with hSk' | rfl
        · exact hdc k o' hk hSk' e he hb
        · rw [hot] at hk; cases hk; exact hcl e he hb
      exact getD_set_true hin
    · have := hstop' e he
      rw [show (listed.getD e false = true ∨ e = i) = ((listed.setIfInBounds i true).getD e false = true) from congrFun hS' e] at this
      exact this
end
theorem draw_ok (Fi : Fits p P) {cal : Cal} (hcal : CalOk P cal) {rnd : Option Nat} {id : Nat} {ops : Array Oper} : CodeOk P rnd (.region id ops true) (cRegion p cal id ops true) := by
  intro env d h res e F r w a n Q hF hs he hm hc hq
  unfold cRegion at e
  have e1 : fromOps d (evalDraw p cal ops.toList env h) = some res := e
  cases h1 : evalDraw p cal ops.toList env h with
  | none => rw [h1] at e1; cases e1
  | some q =>
    rw [h1] at e1
    obtain ⟨env', h'⟩ := q
    simp only [fromOps, Option.some.injEq] at e1; subst e1
    refine wpIn_region_any Fi.mixed ?_
    unfold evalDraw at h1
    split at h1
    · rename_i hdr
      rw [H.bump_eq] at h1
      obtain ⟨E, hh, fb, val, Tr⟩ := draw_trace h1
      unfold drawOk at hdr
      simp only [Bool.and_eq_true] at hdr
      obtain ⟨⟨⟨d1, d2⟩, d3⟩, d4⟩ := hdr
      have st0 : Step P r h w r h { w with drawn := w.drawn + 1 } := Step.drew hs _
      have hsorted : ∀ (k k' e e' : Nat), (effIdx p ops.toList 0)[k]? = some e → (effIdx p ops.toList 0)[k']? = some e' → k < k' → e < e' := fun k k' e e' a b c => es_lt a b c
      have hbn : (h.bumpD (len (fltIdx ops.toList 0))).nx = h.nx + (fltIdx ops.toList 0).length := by rw [len_eq]; rfl
      have G : Reg p P cal ops r h { w with drawn := w.drawn + 1 } a E hh fb val := by
        refine ⟨st0.sim, Tr.op, fun f o ho hf => ?_, fun f f' o o' ho ho' hf hf' hne => ?_, hc, d1, fun i o ho hie hnf x hx hlt => ?_, fun i f o ho hf hb x hx hlt => ?_, fun k k' o q hlt hk hk' hm => ?_⟩
        · rw [Tr.h0, hbn]; exact Tr.fl f o ho hf
        · rcases Nat.lt_or_gt_of_ne hne with hlt | hgt
          · exact Tr.ne f f' o o' ho ho' hf hf' hlt
          · exact (Tr.ne f' f o' o ho' ho hf' hf hgt).symm
        · obtain ⟨k', hxs⟩ := List.getElem?_of_mem hx
          have hir := es_rank ho hie
          have hnot : i ∉ fltIdx ops.toList 0 := fun hh => by
            obtain ⟨-, o', h2, h3⟩ := (fltIdx_mem _ _ _).1 hh
            simp only [Nat.sub_zero] at h2
            rw [ho] at h2; cases h2; rw [hnf] at h3; cases h3
          refine (chain_spec _ [] d2 _ i hir hnot).2 k' _ ?_ hxs
          rcases Nat.lt_trichotomy k' (rank p ops.toList i) with h' | h' | h'
          · exact h'
          · rw [h', hir] at hxs; have := Option.some.inj hxs; omega
          · have := es_lt hir hxs h'; omega
        · have hfm : f ∈ fltIdx ops.toList 0 := (fltIdx_mem _ _ _).2 ⟨Nat.zero_le _, o, by simpa using ho, hf⟩
          exact fltOk_spec _ d3 i f hfm hb x (upTo_mem _ hsorted x hx hlt)
        · have := apartAll_spec _ 0 d4 k k' o q hlt hk hk' hm
          simpa using this
      have hfalse : ∀ k, ¬ (Array.replicate ops.size false).getD k false = true := fun k => by
        rw [Array.getD_eq_getD_getElem?, Array.getElem?_replicate]
        split <;> simp
      refine draw_any Fi hcal hF.open G (fun r' a' w' hst he' hz hd => ?_) ops.size (Array.replicate ops.size false) 0 (fun _ => 0) r a _ (by simp) ?_ (fun k o hk hS => absurd hS (hfalse k)) ?_ (fun e _ => hfalse e)
      · rw [Tr.hn] at hst
        rw [Tr.en] at he'
        exact hq r' a' w' (st0.trans hst) he' (by rw [hd]; exact hm.mono (hst.le st0.sim)) hz
      · unfold left
        rw [Array.toList_replicate]
        refine Nat.le_trans List.countP_le_length ?_
        simp
      · refine ⟨Nat.zero_le _, fun k e hk => by omega, fun k e _ _ hS => absurd hS (hfalse e), ?_, Nat.le_refl _, fun f o ho hf _ => ?_, fun f o ho hf hS => absurd hS (hfalse f), fun f f' o o' _ _ _ _ hS => absurd hS (hfalse f), fun k f o hS => absurd hS (hfalse k), fun t i hi hwr _ => ?_, rfl, rfl⟩
        · rw [Tr.h0]; exact st0.sim.bump _
        · exact hs.fresh _ (Tr.fl f o ho hf).1
        · rw [G.keep i 0 (Nat.zero_le _) hi fun k o _ hk hok hdk => hfalse k ((hwr k o hok hdk).2 hk), Tr.e0]
          exact he t
    · cases h1
end Go.Am
