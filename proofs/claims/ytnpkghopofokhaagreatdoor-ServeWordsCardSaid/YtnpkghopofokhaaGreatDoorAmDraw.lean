/- A part of the abstract machine, or of a proof over it. -/
import Derived.Test.YtnpkghopofokhaaGreatDoorAmDrawC
namespace Go.Am
variable {p : Pg} {P : Program} {r : Ren} {h : H} {w : World}
section
variable {cal : Cal} {ops : Array Oper} {E : Nat → T V} {hs : Nat → H} {fb : Nat → Nat} {val : Nat → V} {r0 : Ren} {h0 : H} {w0 : World} {a0 : Act} {S : Nat → Prop} {j : Nat} {B : Nat → Nat} {a : Act}

theorem ancs_length : ∀ (os : List Oper) (acc : List Nat), (ancs os acc).length = acc.length + os.length
  | [], _ => by simp [ancs]
  | o :: os, acc => by simp only [ancs, forceNat_eq]; rw [ancs_length os]; simp only [List.length_append, List.length_cons, List.length_nil]; omega
/-- What is known of an operation that may come next. -/
structure Nxt (p : Pg) (ops : Array Oper) (S : Nat → Prop) (j i : Nat) (o : Oper) : Prop where
  at_ : ops.toList[i]? = some o
  not : ¬ S i
  up : ∀ k, (nthD (ancs ops.toList []) i).testBit k = true → S k
  down : ∀ k o', ops.toList[k]? = some o' → S k → ∀ x, (nthD (ancs ops.toList []) k).testBit x = true → S x
  stop : ∀ e, (effIdx p ops.toList 0)[j]? = some e → ¬ S e
theorem Nxt.noX (G : Reg p P cal ops r0 h0 w0 a0 E hs fb val) {i : Nat} {o : Oper} (N : Nxt p ops S j i o) {f : Nat} {of : Oper} (hof : ops.toList[f]? = some of) (hf : isFlt of.op = true) (hS : S f) (hj : j ≤ rank p ops.toList f) :
    (nthD (ancs ops.toList []) i).testBit f = false := by
  cases hb : (nthD (ancs ops.toList []) i).testBit f with
  | false => rfl
  | true =>
    exfalso
    have hr := es_rank (p := p) hof (isFlt_eff hf)
    have hlt : rank p ops.toList f < (effIdx p ops.toList 0).length := (List.getElem?_eq_some_iff.1 hr).1
    have he : (effIdx p ops.toList 0)[j]? = some ((effIdx p ops.toList 0)[j]'(by omega)) := by simp
    refine N.stop _ he ?_
    rcases Nat.eq_or_lt_of_le hj with heq | hlt2
    · rw [← heq] at hr; rw [he] at hr
      rw [Option.some.inj hr]; exact hS
    · exact N.up _ (G.flt i f of hof hf hb _ (List.mem_of_getElem? he) (es_lt he hr hlt2))
theorem Nxt.wr (G : Reg p P cal ops r0 h0 w0 a0 E hs fb val) {i : Nat} {o : Oper} (N : Nxt p ops S j i o) {t : Nat} (ht : t ∈ namesOf ops.toList o) {k : Nat} {ok : Oper} (hok : ops.toList[k]? = some ok) (hd : ok.dst = some t) : S k ↔ k < i := by
  rcases Nat.lt_trichotomy k i with hlt | rfl | hgt
  · exact ⟨fun _ => hlt, fun _ => N.up k (G.apart k i ok o hlt hok N.at_ (.inl ⟨t, hd, ht⟩))⟩
  · exact ⟨fun hh => absurd hh N.not, fun hh => absurd hh (Nat.lt_irrefl _)⟩
  · refine ⟨fun hh => ?_, fun hh => by omega⟩
    exact absurd (N.down k ok hok hh i (G.apart i k o ok hgt N.at_ hok (.inr ⟨t, hd, ht⟩))) N.not
theorem Nxt.xd (G : Reg p P cal ops r0 h0 w0 a0 E hs fb val) {i : Nat} {o : Oper} (N : Nxt p ops S j i o) {t : Nat} (ht : t ∈ namesOf ops.toList o) {f : Nat} {of : Oper} (hof : ops.toList[f]? = some of) (hf : isFlt of.op = true) (hS : S f) (hj : j ≤ rank p ops.toList f) : of.dst ≠ some t := by
  intro hd
  have hfi := (N.wr G ht hof hd).1 hS
  have := G.apart f i of o hfi hof N.at_ (.inl ⟨t, hd, ht⟩)
  rw [N.noX G hof hf hS hj] at this; cases this
theorem Nxt.env (G : Reg p P cal ops r0 h0 w0 a0 E hs fb val) (I : Inv p P ops r0 h0 w0 a0 E hs fb S j B r a w) {i : Nat} {o : Oper} (N : Nxt p ops S j i o) {t : Nat} (ht : t ∈ namesOf ops.toList o) : VR r (opdAt (E i) t) (a.tmps.getD t Go.undef) :=
  I.env t i (Nat.le_of_lt (List.getElem?_eq_some_iff.1 N.at_).1) (fun _ _ hok hd => N.wr G ht hok hd) fun _ _ hof hf hS hj => N.xd G ht hof hf hS hj
theorem tmpsOf_mem : ∀ (l : List Operand) (t : Nat), Operand.tmp t ∈ l → t ∈ tmpsOf l
  | [], _, h => by cases h
  | x :: l, t, h => by
    rcases List.mem_cons.1 h with rfl | h
    · simp [tmpsOf]
    · have := tmpsOf_mem l t h
      cases x <;> simp [tmpsOf, this]
theorem Nxt.opd (G : Reg p P cal ops r0 h0 w0 a0 E hs fb val) (I : Inv p P ops r0 h0 w0 a0 E hs fb S j B r a w) {i : Nat} {o : Oper} (N : Nxt p ops S j i o) (hg : glOk P.globals.size o.op.operands.toList = true) :
    ∀ x ∈ o.op.operands.toList, VR r (opd (E i) x) (a.eval x) := by
  intro x hx
  cases x with
  | tmp t =>
    have := N.env G I (t := t) (by simp only [namesOf, List.mem_append]; exact .inr (.inr (tmpsOf_mem _ t hx)))
    unfold opdAt at this
    simp only [Am.opd]
    cases hh : (E i).get t with
    | none => rw [hh] at this; exact this
    | some v => rw [hh] at this; exact this
  | const v => exact absC_sound r 20 v
  | global g =>
    have hg' := glOk_mem hg _ hx
    simp only [glOk, blt_iff, Bool.and_true, decide_eq_true_eq] at hg'
    obtain ⟨loc, h1, h2, h3⟩ := I.step.sim.gl g hg'
    have := VR.ptr (l := g) (o := 0) h1
    rw [h2, h3] at this; exact this
  | func f => exact .func .nil .nil
theorem Nxt.guard (G : Reg p P cal ops r0 h0 w0 a0 E hs fb val) (I : Inv p P ops r0 h0 w0 a0 E hs fb S j B r a w) {i : Nat} {o : Oper} (N : Nxt p ops S j i o) {b : Bool} (e : wantedA ops.toList o (E i) = some b) :
    Region.wanted o (yielded ops a.tmps) = b :=
  want_sound' (fun t ht => N.env G I (by simp only [namesOf, List.mem_append]; exact .inr (.inl ht))) e
theorem opsOk_get {g n : Nat} : ∀ {l : List Oper} {i : Nat} {o : Oper}, opsOk g n l = true → l[i]? = some o → (∀ d, o.dst = some d → d < n) ∧ glOk g o.op.operands.toList = true
  | [], _, _, _, h => by simp at h
  | x :: l, 0, o, h, hi => by
    simp only [List.getElem?_cons_zero, Option.some.injEq] at hi; subst hi
    obtain ⟨a, b, _⟩ := opsOk_cons h; exact ⟨a, b⟩
  | x :: l, i + 1, o, h, hi => by
    rw [List.getElem?_cons_succ] at hi
    exact opsOk_get (opsOk_cons h).2.2 hi
theorem put_get_ne {a : Act} {dst : Option Nat} {v : Value} {t : Nat} (h : dst ≠ some t) : (a.put dst v).tmps.getD t Go.undef = a.tmps.getD t Go.undef := by
  cases dst with
  | none => rfl
  | some d =>
    have : d ≠ t := fun e => h (by rw [e])
    simp only [Act.put]
    rw [Array.getD_eq_getD_getElem?, Array.getElem?_setIfInBounds_ne this, ← Array.getD_eq_getD_getElem?]
theorem put_get_self {a : Act} {d : Nat} {v : Value} (h : d < a.tmps.size) : (a.put (some d) v).tmps.getD d Go.undef = v := by
  simp only [Act.put]
  rw [Array.getD_eq_getD_getElem?, Array.getElem?_setIfInBounds_self_of_lt h]; rfl
/-- The value of an operation that was just done, whatever is done later. -/
theorem Nxt.own (G : Reg p P cal ops r0 h0 w0 a0 E hs fb val) {i : Nat} {o : Oper} (N : Nxt p ops S j i o) {t i2 : Nat} (hi2 : i2 ≤ ops.toList.length) (hd : o.dst = some t) (hwr : ∀ k o', ops.toList[k]? = some o' → o'.dst = some t → ((S k ∨ k = i) ↔ k < i2)) :
    opdAt (E i2) t = val i := by
  have hii : i < i2 := (hwr i o N.at_ hd).1 (.inr rfl)
  rw [G.keep i2 (i + 1) hii hi2 fun k ok h1 h2 hok hdk => ?_, G.valAt N.at_ hd]
  rcases (hwr k ok hok hdk).2 h2 with hSk | rfl
  · exact N.not (N.down k ok hok hSk i (G.apart i k o ok (by omega) N.at_ hok (.inl ⟨t, hd, by simp [namesOf, dstL, hdk]⟩)))
  · omega
/-- The state behind an operation that is no new variable. -/
theorem Inv.next (G : Reg p P cal ops r0 h0 w0 a0 E hs fb val) (I : Inv p P ops r0 h0 w0 a0 E hs fb S j B r a w) {i : Nat} {o : Oper} (N : Nxt p ops S j i o) (hnf : isFlt o.op = false) {r1 : Ren} {w1 : World} {v' : Value} {j1 : Nat}
    (hj : (isEff p o.op = true ∧ j1 = j + 1 ∧ rank p ops.toList i = j) ∨ (isEff p o.op = false ∧ j1 = j)) (hst : Step P r (hs j) w r1 (hs j1) w1) (hv : VR r1 (val i) v') :
    Inv p P ops r0 h0 w0 a0 E hs fb (fun k => S k ∨ k = i) j1 B r1 (a.put o.dst v') w1 := by
  have hle : r.le r1 := hst.le I.step.sim
  have hdlt := (opsOk_get G.ok N.at_).1
  obtain ⟨z1, z2⟩ := put_size a o.dst v'
  have hjle : j ≤ j1 := by rcases hj with ⟨-, h, -⟩ | ⟨-, h⟩ <;> omega
  have hfi : ∀ {f : Nat} {of : Oper}, ops.toList[f]? = some of → isFlt of.op = true → f ≠ i := fun hof hf e => by
    subst e; rw [N.at_] at hof; cases hof; rw [hnf] at hf; cases hf
  have hX : ∀ {f : Nat} {of : Oper}, ops.toList[f]? = some of → isFlt of.op = true → j ≤ rank p ops.toList f → j1 ≤ rank p ops.toList f := fun {f of} hof hf hjf => by
    rcases hj with ⟨h1, h2, h3⟩ | ⟨-, h⟩
    · have hne : rank p ops.toList f ≠ j := fun e => hfi hof hf (by
        have k1 := es_rank (p := p) hof (isFlt_eff hf); have k2 := es_rank (p := p) N.at_ h1
        rw [e, ← h3, k2] at k1; exact (Option.some.inj k1).symm)
      omega
    · omega
  refine ⟨?_, fun k e hk he => ?_, fun k e hk he hSe => ?_, I.step.trans hst, Nat.le_trans I.nx hst.nx, fun f of hof hf hjf => ?_, fun f of hof hf hSf hjf => ?_, fun f f' of of' h1 h2 h3 h4 h5 h6 h7 h8 => ?_, fun k f of hSk hof hf hSf hjf => ?_, fun t i2 hi2 hwr hxd => ?_, z1.trans I.size, z2.trans I.defers⟩
  · rcases hj with ⟨h1, h2, h3⟩ | ⟨-, h⟩
    · have := (List.getElem?_eq_some_iff.1 (es_rank (p := p) N.at_ h1)).1
      omega
    · have := I.jle; omega
  · rcases Nat.lt_or_ge k j with hlt | hge
    · exact .inl (I.pre k e hlt he)
    · rcases hj with ⟨h1, h2, h3⟩ | ⟨-, h⟩
      · have hkj : k = rank p ops.toList i := by omega
        have := es_rank (p := p) N.at_ h1
        rw [← hkj, he] at this
        exact .inr (Option.some.inj this)
      · omega
  · rcases hSe with hSe | rfl
    · exact I.late k e (by omega) he hSe
    · exfalso
      rcases hj with ⟨h1, h2, h3⟩ | ⟨h1, -⟩
      · have := es_inj he (es_rank (p := p) N.at_ h1); omega
      · obtain ⟨o', h2, h3⟩ := es_mem (List.mem_of_getElem? he)
        rw [N.at_] at h2; cases h2; rw [h1] at h3; cases h3
  · rw [hst.ext _ (Nat.lt_of_lt_of_le (G.fl f of hof hf).2 I.nx)]
    exact I.nr f of hof hf (by omega)
  · rcases hSf with hSf | rfl
    · have F := I.x f of hof hf hSf (by omega)
      obtain ⟨k1, k2⟩ := hst.kept _ F.hi F.un
      refine ⟨F.lo, Nat.lt_of_lt_of_le F.hi hst.size, k2, fun t z h1 h2 => ?_, fun d hd => ?_⟩
      · obtain ⟨cs, c1, c2⟩ := F.cells t z h1 h2
        exact ⟨cs, by rw [k1]; exact c1, c2.mono hle⟩
      · rw [put_get_ne fun e => ?_]
        · exact F.dst d hd
        · have ht : d ∈ namesOf ops.toList o := by simp [namesOf, dstL, e]
          exact N.xd G ht hof hf hSf (by omega) hd
    · exact absurd rfl (hfi hof hf)
  · rcases h5 with h5 | rfl
    · rcases h6 with h6 | rfl
      · exact I.xinj f f' of of' h1 h2 h3 h4 h5 h6 (by omega) (by omega)
      · exact absurd rfl (hfi h2 h4)
    · exact absurd rfl (hfi h1 h3)
  · rcases hSf with hSf | rfl
    · rcases hSk with hSk | rfl
      · exact I.dep k f of hSk hof hf hSf (by omega)
      · exact N.noX G hof hf hSf (by omega)
    · exact absurd rfl (hfi hof hf)
  · by_cases hd : o.dst = some t
    · rw [N.own G hi2 hd hwr, hd, put_get_self (by rw [I.size]; exact hdlt t hd)]
      exact hv
    · rw [put_get_ne hd]
      refine (I.env t i2 hi2 (fun k ok hok hdk => ?_) fun f of hof hf hSf hjf => hxd f of hof hf (.inl hSf) (hX hof hf hjf)).mono hle
      have hki : k ≠ i := fun e => by subst e; rw [N.at_] at hok; cases hok; exact hd hdk
      rw [← hwr k ok hok hdk]
      constructor
      · exact .inl
      · rintro (h | h)
        · exact h
        · exact absurd h hki
/-- The state behind a new variable. -/
theorem Inv.newVar (G : Reg p P cal ops r0 h0 w0 a0 E hs fb val) (I : Inv p P ops r0 h0 w0 a0 E hs fb S j B r a w) {i : Nat} {o : Oper} (N : Nxt p ops S j i o) (hfo : isFlt o.op = true) {t0 : Nat} {z0 : V} {cs0 : List Value} (hop : o.op = .alloc t0) (hz0 : zeroOf p t0 = some z0) (hcs : VRs r z0.cells cs0) :
    Inv p P ops r0 h0 w0 a0 E hs fb (fun k => S k ∨ k = i) j (fun f => if f = i then w.heap.size else B f) r (a.put o.dst (.pointer (some ⟨w.heap.size, 0, none⟩))) { w with heap := w.heap.push (.cells cs0.toArray t0) } := by
  have hdlt := (opsOk_get G.ok N.at_).1
  obtain ⟨z1, z2⟩ := put_size a o.dst (.pointer (some ⟨w.heap.size, 0, none⟩))
  have hri := es_rank (p := p) N.at_ (isFlt_eff hfo)
  have hji : j ≤ rank p ops.toList i := by
    rcases Nat.lt_or_ge (rank p ops.toList i) j with hlt | hge
    · exact absurd (I.pre _ i hlt hri) N.not
    · exact hge
  refine ⟨I.jle, fun k e hk he => .inl (I.pre k e hk he), fun k e hk he hSe => ?_, I.step.push _, I.nx, I.nr, fun f of hof hf hSf hjf => ?_, fun f f' of of' h1 h2 h3 h4 h5 h6 h7 h8 hB => ?_, fun k f of hSk hof hf hSf hjf => ?_, fun t i2 hi2 hwr hxd => ?_, z1.trans I.size, z2.trans I.defers⟩
  · rcases hSe with hSe | rfl
    · exact I.late k e hk he hSe
    · exact ⟨o, N.at_, hfo⟩
  · by_cases hfi : f = i
    · subst hfi
      rw [N.at_] at hof; cases hof
      simp only [if_true]
      refine ⟨I.step.size, by simp, fun x lx hx hrx => Nat.ne_of_lt (I.step.sim.blk_lt hx hrx), fun t z h1 h2 => ?_, fun d hd => ?_⟩
      · rw [hop] at h1; cases h1
        rw [hz0] at h2; cases h2
        exact ⟨cs0, by simp, hcs⟩
      · rw [hd, put_get_self (by rw [I.size]; exact hdlt d hd)]
    · have hSf' : S f := by rcases hSf with h | h; exact h; exact absurd h hfi
      simp only [if_neg hfi]
      have F := I.x f of hof hf hSf' hjf
      refine ⟨F.lo, by simp only [Array.size_push]; have := F.hi; omega, F.un, fun t z h1 h2 => ?_, fun d hd => ?_⟩
      · obtain ⟨cs, c1, c2⟩ := F.cells t z h1 h2
        exact ⟨cs, by simp only []; rw [Array.getElem?_push, if_neg (by have := F.hi; omega)]; exact c1, c2⟩
      · rw [put_get_ne fun e => ?_]
        · exact F.dst d hd
        · have ht : d ∈ namesOf ops.toList o := by simp [namesOf, dstL, e]
          exact N.xd G ht hof hf hSf' hjf hd
  · by_cases hfi : f = i
    · by_cases hfi' : f' = i
      · rw [hfi, hfi']
      · exfalso
        have hS' : S f' := by rcases h6 with h | h; exact h; exact absurd h hfi'
        have F := (I.x f' of' h2 h4 hS' h8).hi
        simp only [if_pos hfi, if_neg hfi'] at hB; omega
    · have hS : S f := by rcases h5 with h | h; exact h; exact absurd h hfi
      by_cases hfi' : f' = i
      · exfalso
        have F := (I.x f of h1 h3 hS h7).hi
        simp only [if_neg hfi, if_pos hfi'] at hB; omega
      · have hS' : S f' := by rcases h6 with h | h; exact h; exact absurd h hfi'
        simp only [if_neg hfi, if_neg hfi'] at hB
        exact I.xinj f f' of of' h1 h2 h3 h4 hS hS' h7 h8 hB
  · cases hb : (nthD (ancs ops.toList []) k).testBit f with
    | false => rfl
    | true =>
      exfalso
      rcases hSf with hSf | rfl
      · rcases hSk with hSk | rfl
        · rw [I.dep k f of hSk hof hf hSf hjf] at hb; cases hb
        · rw [N.noX G hof hf hSf hjf] at hb; cases hb
      · rcases hSk with hSk | rfl
        · rcases Nat.lt_or_ge k ops.toList.length with hlt | hge
          · exact N.not (N.down k ops.toList[k] (by simp) hSk f hb)
          · have hlen : (ancs ops.toList []).length ≤ k := by rw [ancs_length]; simpa using hge
            rw [nthD_ge hlen] at hb; simp at hb
        · exact N.not (N.up k hb)
  · by_cases hd : o.dst = some t
    · exact absurd hd (hxd i o N.at_ hfo (.inr rfl) hji)
    · rw [put_get_ne hd]
      refine I.env t i2 hi2 (fun k ok hok hdk => ?_) fun f of hof hf hSf hjf => hxd f of hof hf (.inl hSf) hjf
      have hki : k ≠ i := fun e => by subst e; rw [N.at_] at hok; cases hok; exact hd hdk
      rw [← hwr k ok hok hdk]
      constructor
      · exact .inl
      · rintro (h | h)
        · exact h
        · exact absurd h hki
end
end Go.Am
