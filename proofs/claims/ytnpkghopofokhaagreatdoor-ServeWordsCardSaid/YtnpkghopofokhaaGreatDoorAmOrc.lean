/- A part of the abstract machine, or of a proof over it. -/
import Derived.Test.YtnpkghopofokhaaGreatDoorAmCall
namespace Go.Am
variable {p : Pg} {P : Program} {r : Ren} {h : H} {w : World}

/-! ### Calls that were proved before -/
noncomputable section
def T.val {α : Type} (t : T α) : Option α := T.rec (motive := fun _ => Option α) none (fun _ x _ _ _ => x) t
def T.left {α : Type} (t : T α) : T α := T.rec (motive := fun _ => T α) .lf (fun l _ _ _ _ => l) t
def T.right {α : Type} (t : T α) : T α := T.rec (motive := fun _ => T α) .lf (fun _ _ r _ _ => r) t
def okX {α : Type} (f : α → α → Bool) : Option α → Option α → Bool
  | none, _ => true
  | some a, some b => f a b
  | some _, none => false
/-- Is each entry of one trie an entry of another? -/
def subT {α : Type} (f : α → α → Bool) (a : T α) : T α → Bool :=
  T.rec (motive := fun _ => T α → Bool) (fun _ => true) (fun _ x _ sl sr b => match okX f x b.val with
    | true => match sl b.left with
      | true => sr b.right
      | false => false
    | false => false) a
def fzEq : Fz → Fz → Bool
  | .no, .no => true
  | .pre a, .pre b => Nat.beq a b
  | .tail, .tail => true
  | _, _ => false
def boolEq : Bool → Bool → Bool
  | true, true => true
  | false, false => true
  | _, _ => false
def entsLe : List (V × V × Nat) → List (V × V × Nat) → Bool
  | [], [] => true
  | (a, b, n) :: x, (c, d, m) :: y => match beqV 40 a c && (beqV 40 b d && Nat.beq n m) with
    | true => entsLe x y
    | false => false
  | _, _ => false
/-- Does an object say no more than another one? -/
def leO : Obj → Obj → Bool
  | .cells vs n elem frz opn, .cells vs' n' elem' frz' opn' => match Nat.beq n n' && (Nat.beq elem elem' && (fzEq frz frz' && boolEq opn opn')) with
    | true => subT (beqV 40) vs vs'
    | false => false
  | .glob vs elem, .glob vs' elem' => match Nat.beq elem elem' with
    | true => subT (beqV 40) vs vs'
    | false => false
  | .mapo es c, .mapo es' c' => match Nat.beq c c' with
    | true => entsLe es es'
    | false => false
  | .strI s i, .strI s' i' => match Nat.beq i i' with
    | true => bytesEq s s'
    | false => false
  | .defd a, .defd b => boolEq a b
  | _, _ => false
def mrgV (h p o : Option Obj) : Option Obj := match h with
  | some (.glob vs e) => some (.glob vs e)
  | _ => match p with
    | some _ => o
    | none => match o with
      | some x => some x
      | none => h
/-- What a call has left, over what it was not shown. -/
def mrgK {β : Type} (h : T Obj) : T Obj → T Obj → (T Obj → β) → β :=
  T.rec (motive := fun _ => T Obj → T Obj → (T Obj → β) → β) (fun _ o k => k o)
    (fun hl hx hr ml mr p o k => T.rec (motive := fun _ => β) (T.rec (motive := fun _ => β) (k (.nd hl hx hr)) (fun _ _ _ _ _ => ml p.left o.left fun l => mr p.right o.right fun r => k (.nd l (mrgV hx p.val o.val) r)) p)
      (fun _ _ _ _ _ => ml p.left o.left fun l => mr p.right o.right fun r => k (.nd l (mrgV hx p.val o.val) r)) o) h
structure Ent where
  f : FuncId
  args : List V
  nx : Nat
  part : T Obj
  v : V
  out : T Obj
  nx' : Nat
  /-- May it be used at a smaller number of objects, too? -/
  loose : Bool := false
def findE (f nx : Nat) : List Ent → Option Ent
  | [] => none
  | e :: es => match (Nat.beq e.nx nx || (e.loose && Nat.ble nx e.nx)) && Nat.beq e.f f with
    | true => some e
    | false => findE f nx es
def useE (e : Ent) (args : List V) (h : H) (no : R) : R := match beqL (beqV 40) e.args args && subT leO e.part h.o with
  | true => mrgK h.o e.part e.out fun o => some (e.v, ⟨o, e.nx'⟩)
  | false => no
def bodyC (p : Pg) (cal : Cal) (lf : Nat) (f : FuncId) (args : List V) (h : H) : R := match p.fn.get f with
  | none => none
  | some g => match g.body with
    | none => natives p g args h
    | some c => enterK p cal lf g c args h
def callO (es : List Ent) (p : Pg) (lf : Nat) : Nat → Cal
  | 0, _, _, _ => none
  | n + 1, fn, args, h => match fn with
    | .func f => match findE f h.nx es with
      | some e => useE e args h (bodyC p (callO es p lf n) lf f args h)
      | none => bodyC p (callO es p lf n) lf f args h
    | .yield l => roundK p (callO es p lf n) lf l args h
    | _ => none
/-- A call, done, and held against what is said of it. -/
def chkR (e : Ent) : R → Bool
  | some (v, ⟨o, nx⟩) => Nat.beq nx e.nx' && (beqV 40 e.v v && subT leO e.out o)
  | none => false
def runE (es : List Ent) (p : Pg) (lf n : Nat) (e : Ent) : Bool := chkR e (bodyC p (callO es p lf n) lf e.f e.args ⟨e.part, e.nx⟩)
end

theorem T.get_eq {α : Type} (t : T α) (k : Nat) : t.get k = match k with
  | 0 => t.val
  | k + 1 => if k % 2 = 0 then t.left.get (k / 2) else t.right.get (k / 2) := by
  cases t with
  | lf => cases k <;> simp [T.val, T.left, T.right, T.get_lf]
  | nd l x r => cases k with
    | zero => rfl
    | succ k => rw [T.get_succ]; rfl
theorem okX_spec {α : Type} {f : α → α → Bool} {a b : Option α} (e : okX f a b = true) : ∀ v, a = some v → ∃ v', b = some v' ∧ f v v' = true := by
  intro v hv; subst hv
  cases b with
  | none => cases e
  | some b => exact ⟨b, rfl, e⟩
theorem subT_spec {α : Type} {f : α → α → Bool} : ∀ (a b : T α), subT f a b = true → ∀ k v, a.get k = some v → ∃ v', b.get k = some v' ∧ f v v' = true := by
  intro a
  induction a with
  | lf => intro b _ k v h; rw [T.get_lf] at h; cases h
  | nd l x r ihl ihr =>
    intro b e k v h
    have e1 : (match okX f x b.val with
      | true => match subT f l b.left with
        | true => subT f r b.right
        | false => false
      | false => false) = true := e
    cases h1 : okX f x b.val with
    | false => rw [h1] at e1; cases e1
    | true =>
      rw [h1] at e1
      simp only [] at e1
      cases h2 : subT f l b.left with
      | false => rw [h2] at e1; cases e1
      | true =>
        rw [h2] at e1
        simp only [] at e1
        rw [T.get_eq b]
        cases k with
        | zero => exact okX_spec h1 v h
        | succ k =>
          rw [T.get_succ] at h
          simp only []
          split at h
          · rename_i hk; rw [if_pos hk]; exact ihl _ h2 _ _ h
          · rename_i hk; rw [if_neg hk]; exact ihr _ e1 _ _ h
theorem fzEq_spec {a b : Fz} (e : fzEq a b = true) : a = b := by
  cases a <;> cases b <;> simp only [fzEq] at e <;> first | rfl | (cases e; done) | (rw [beq_iff, decide_eq_true_eq] at e; rw [e])
theorem boolEq_spec {a b : Bool} (e : boolEq a b = true) : a = b := by
  cases a <;> cases b <;> first | rfl | cases e
theorem entsLe_spec {r : Ren} : ∀ (x y : List (V × V × Nat)) (l : List MapEntry), entsLe x y = true → EntsR r y l → EntsR r x l
  | [], [], _, _, h => h
  | [], _ :: _, _, e, _ => by cases e
  | _ :: _, [], _, e, _ => by cases e
  | (a, b, n) :: x, (c, d, m) :: y, l, e, h => by
    simp only [entsLe] at e
    split at e
    · rename_i hh
      simp only [Bool.and_eq_true, beq_iff, decide_eq_true_eq] at hh
      obtain ⟨h1, h2, h3⟩ := hh
      subst h3
      cases h with
      | cons hk hv t => exact .cons (beqV_sound 40 a c h1 _ hk) (beqV_sound 40 b d h2 _ hv) (entsLe_spec x y _ e t)
    · cases e
theorem leO_sound {loc : Loc} {a b : Obj} {m : Go.Obj} (e : leO a b = true) (h : ObjR P r loc b m) : ObjR P r loc a m := by
  cases a <;> cases b <;> simp only [leO] at e <;> try (cases e; done)
  · rename_i vs n elem frz opn vs' n' elem' frz' opn'
    split at e
    · rename_i hh
      simp only [Bool.and_eq_true, beq_iff, decide_eq_true_eq] at hh
      obtain ⟨rfl, rfl, h3, h4⟩ := hh
      have h3 := fzEq_spec h3
      have h4 := boolEq_spec h4
      subst h3 h4
      obtain ⟨c, lo, hi, k1, k2, k3⟩ := h
      refine ⟨c, lo, hi, k1, fun i v hv => ?_, k3⟩
      obtain ⟨v', g1, g2⟩ := subT_spec _ _ e i v hv
      obtain ⟨q1, x, q2, q3⟩ := k2 i v' g1
      exact ⟨q1, x, q2, beqV_sound 40 v v' g2 _ q3⟩
    · cases e
  · rename_i vs elem vs' elem'
    split at e
    · obtain ⟨c, fr, n, k1, k2⟩ := h
      rename_i hh
      rw [beq_iff, decide_eq_true_eq] at hh
      subst hh
      refine ⟨c, fr, n, k1, fun i v hv => ?_⟩
      obtain ⟨v', g1, g2⟩ := subT_spec _ _ e i v hv
      obtain ⟨q1, x, q2, q3⟩ := k2 i v' g1
      exact ⟨q1, x, q2, beqV_sound 40 v v' g2 _ q3⟩
    · cases e
  · split at e
    · rename_i hh
      rw [beq_iff, decide_eq_true_eq] at hh
      subst hh
      obtain ⟨en, k1, k2⟩ := h
      exact ⟨en, k1, entsLe_spec _ _ _ e k2⟩
    · cases e
  · split at e
    · rename_i hh
      rw [beq_iff, decide_eq_true_eq] at hh
      subst hh
      rw [bytesEq_iff, decide_eq_true_eq] at e
      subst e
      exact h
    · cases e
  · have := boolEq_spec e; subst this; exact h
theorem leO_glob {a : Obj} {vs : T V} {e : Nat} (h : leO a (.glob vs e) = true) : ∃ vs', a = .glob vs' e := by
  cases a <;> simp only [leO] at h <;> try (cases h; done)
  split at h
  · rename_i hh; rw [beq_iff, decide_eq_true_eq] at hh; subst hh; exact ⟨_, rfl⟩
  · cases h
theorem glob_leO {b : Obj} {vs : T V} {e : Nat} (h : leO (.glob vs e) b = true) : ∃ vs', b = .glob vs' e := by
  cases b <;> simp only [leO] at h <;> try (cases h; done)
  split at h
  · rename_i hh; rw [beq_iff, decide_eq_true_eq] at hh; subst hh; exact ⟨_, rfl⟩
  · cases h
noncomputable def mrg (h p o : T Obj) : T Obj := mrgK h p o id
theorem mrgK_eq (h : T Obj) : ∀ {β : Type} (p o : T Obj) (k : T Obj → β), mrgK h p o k = k (mrg h p o) := by
  induction h with
  | lf => intro β p o k; rfl
  | nd hl hx hr ihl ihr =>
    intro β p o k
    have key : ∀ {β : Type} (k : T Obj → β), mrgK hl p.left o.left (fun l => mrgK hr p.right o.right fun r => k (.nd l (mrgV hx p.val o.val) r)) = k (.nd (mrg hl p.left o.left) (mrgV hx p.val o.val) (mrg hr p.right o.right)) := by
      intro β k; rw [ihl, ihr]
    cases o with
    | lf =>
      cases p with
      | lf => rfl
      | nd a b c => exact (key k).trans (congrArg k (key id).symm)
    | nd a b c => exact (key k).trans (congrArg k (key id).symm)
theorem mrg_nd {hl hr : T Obj} {hx : Option Obj} {p o : T Obj} : mrg (.nd hl hx hr) p o = .nd hl hx hr ∧ p = .lf ∧ o = .lf ∨ mrg (.nd hl hx hr) p o = .nd (mrg hl p.left o.left) (mrgV hx p.val o.val) (mrg hr p.right o.right) := by
  have key : mrgK hl p.left o.left (fun l => mrgK hr p.right o.right fun r => id (T.nd l (mrgV hx p.val o.val) r)) = .nd (mrg hl p.left o.left) (mrgV hx p.val o.val) (mrg hr p.right o.right) := by
    rw [mrgK_eq, mrgK_eq]; rfl
  cases o with
  | lf =>
    cases p with
    | lf => exact .inl ⟨rfl, rfl, rfl⟩
    | nd a b c => exact .inr key
  | nd a b c => exact .inr key
theorem mrgV_none (h : Option Obj) : mrgV h none none = h := by
  cases h with
  | none => rfl
  | some x => cases x <;> rfl
theorem get_mrg : ∀ (h p o : T Obj), (∀ k, p.get k ≠ none → h.get k ≠ none) → ∀ k, (mrg h p o).get k = mrgV (h.get k) (p.get k) (o.get k) := by
  intro h
  induction h with
  | lf =>
    intro p o hp k
    have hpk : p.get k = none := by
      cases e : p.get k with
      | none => rfl
      | some x => exact absurd (T.get_lf k) (hp k (by rw [e]; simp))
    rw [hpk, T.get_lf]
    show o.get k = _
    cases o.get k <;> rfl
  | nd hl hx hr ihl ihr =>
    intro p o hp k
    rcases mrg_nd (hl := hl) (hr := hr) (hx := hx) (p := p) (o := o) with ⟨h1, rfl, rfl⟩ | h1
    · rw [h1, T.get_lf, mrgV_none]
    · rw [h1]
      cases k with
      | zero => rw [T.get_eq p, T.get_eq o]; rfl
      | succ k =>
        rw [T.get_succ, T.get_succ, T.get_eq p, T.get_eq o]
        simp only []
        by_cases hk : k % 2 = 0
        · rw [if_pos hk, if_pos hk, if_pos hk, if_pos hk]
          refine ihl p.left o.left (fun x hx' => ?_) (k / 2)
          have := hp (2 * x + 1) (by rw [T.get_eq p]; simp only []; rw [if_pos (by omega), show 2 * x / 2 = x from by omega]; exact hx')
          rw [T.get_succ, if_pos (by omega), show 2 * x / 2 = x from by omega] at this; exact this
        · rw [if_neg hk, if_neg hk, if_neg hk, if_neg hk]
          refine ihr p.right o.right (fun x hx' => ?_) (k / 2)
          have := hp (2 * x + 1 + 1) (by rw [T.get_eq p]; simp only []; rw [if_neg (by omega), show (2 * x + 1) / 2 = x from by omega]; exact hx')
          rw [T.get_succ, if_neg (by omega), show (2 * x + 1) / 2 = x from by omega] at this; exact this

/-! ### What was not shown stays -/
/-- A part of a heap. -/
def PartOf (a : T Obj) (h : T Obj) : Prop := ∀ l o, a.get l = some o → ∃ o', h.get l = some o' ∧ leO o o' = true
theorem Sim.part (hs : Sim P r h w) {a : T Obj} (hp : PartOf a h.o) : Sim P r ⟨a, h.nx⟩ w := by
  have live : ∀ {l : Nat}, (⟨a, h.nx⟩ : H).get l ≠ none → h.get l ≠ none := fun {l} hl => by
    cases e : a.get l with
    | none => exact absurd e hl
    | some o => obtain ⟨o', h1, -⟩ := hp l o e; show h.o.get l ≠ none; rw [h1]; simp
  refine ⟨fun l o hl => ?_, fun l l' loc loc' h1 h2 => hs.inj l l' loc loc' (live h1) (live h2), hs.fresh, hs.gn, hs.gl⟩
  obtain ⟨o', h1, h2⟩ := hp l o hl
  obtain ⟨k1, loc, m, k2, k3, k4⟩ := hs.obj l o' h1
  exact ⟨k1, loc, m, k2, k3, leO_sound h2 k4⟩
/-- The heap behind a call, of what was shown to it. -/
noncomputable def outT (a o : T Obj) : T Obj := mrg a a o
theorem get_outT (a o : T Obj) (k : Nat) : (outT a o).get k = mrgV (a.get k) (a.get k) (o.get k) := get_mrg a a o (fun _ h => h) k
theorem Step.out {a o2 : T Obj} {nx nx2 : Nat} {r' : Ren} {w' : World} (st : Step P r ⟨a, nx⟩ w r' ⟨o2, nx2⟩ w') {o : T Obj} (ho : PartOf o o2) (hs : Sim P r ⟨a, nx⟩ w) : Step P r ⟨a, nx⟩ w r' ⟨outT a o, nx2⟩ w' := by
  have get : ∀ l x, (outT a o).get l = some x → ∃ x', o2.get l = some x' ∧ (x = x' ∨ leO x x' = true) := by
    intro l x hx
    rw [get_outT] at hx
    have viaO : o.get l = some x → ∃ x', o2.get l = some x' ∧ (x = x' ∨ leO x x' = true) := fun h => by
      obtain ⟨x', h1, h2⟩ := ho l x h; exact ⟨x', h1, .inr h2⟩
    cases ha : a.get l with
    | none =>
      rw [ha] at hx
      simp only [mrgV] at hx
      cases hol : o.get l with
      | none => rw [hol] at hx; cases hx
      | some y => rw [hol] at hx; simp only [Option.some.injEq] at hx; subst hx; exact viaO hol
    | some y =>
      rw [ha] at hx
      cases y <;> simp only [mrgV] at hx <;> try exact viaO hx
      rename_i vs e
      simp only [Option.some.injEq] at hx; subst hx
      obtain ⟨loc, m, hr, -⟩ := (hs.obj l _ ha).2
      obtain ⟨g1, -, -⟩ := st.glob l vs e loc ha hr
      exact ⟨_, g1, .inl rfl⟩
  have live : ∀ {l : Nat}, (⟨outT a o, nx2⟩ : H).get l ≠ none → (⟨o2, nx2⟩ : H).get l ≠ none := fun {l} hl => by
    cases e : (outT a o).get l with
    | none => exact absurd e hl
    | some x => obtain ⟨x', h1, -⟩ := get l x e; show o2.get l ≠ none; rw [h1]; simp
  refine ⟨st.ext, st.nx, ⟨fun l x hx => ?_, fun l l' loc loc' h1 h2 => st.sim.inj l l' loc loc' (live h1) (live h2), st.sim.fresh, st.sim.gn, st.sim.gl⟩, st.size, fun b hb hu => ⟨(st.kept b hb hu).1, fun x lx hx hrx => (st.kept b hb hu).2 x lx (live hx) hrx⟩, fun l vs e loc hl hr => ?_, st.os, st.tape, st.output⟩
  · obtain ⟨x', h1, h2⟩ := get l x hx
    obtain ⟨k1, loc, m, k2, k3, k4⟩ := st.sim.obj l x' h1
    refine ⟨k1, loc, m, k2, k3, ?_⟩
    rcases h2 with rfl | h2
    · exact k4
    · exact leO_sound h2 k4
  · obtain ⟨g1, g2, g3⟩ := st.glob l vs e loc hl hr
    refine ⟨?_, g2, g3⟩
    show (outT a o).get l = _
    rw [get_outT]
    have : a.get l = some (.glob vs e) := hl
    rw [this]; rfl
/-- The frame: a call that was shown a part of the heap turns that part alone. -/
theorem Step.frame (hs : Sim P r h w) {a o : T Obj} {nx' : Nat} {r' : Ren} {w' : World} (hp : PartOf a h.o) (st : Step P r ⟨a, h.nx⟩ w r' ⟨outT a o, nx'⟩ w') : Step P r h w r' ⟨mrg h.o a o, nx'⟩ w' := by
  have hsa : Sim P r ⟨a, h.nx⟩ w := hs.part hp
  have hle : r.le r' := st.le hsa
  have hin : ∀ k, a.get k ≠ none → h.o.get k ≠ none := fun k hk => by
    cases e : a.get k with
    | none => exact absurd e hk
    | some x => obtain ⟨o', h1, -⟩ := hp k x e; rw [h1]; simp
  have hget : ∀ l, (⟨mrg h.o a o, nx'⟩ : H).get l = mrgV (h.get l) (a.get l) (o.get l) := fun l => get_mrg h.o a o hin l
  -- what was not shown
  have fr : ∀ l x, h.get l = some x → a.get l = none → ∃ loc m, r l = some loc ∧ r' l = some loc ∧ w'.heap[loc.blk]? = some m ∧ w.heap[loc.blk]? = some m ∧ ObjR P r' loc x m ∧ unowned r' ⟨outT a o, nx'⟩ loc.blk := by
    intro l x hx ha
    obtain ⟨k1, loc, m, k2, k3, k4⟩ := hs.obj l x hx
    have hu : unowned r ⟨a, h.nx⟩ loc.blk := fun y ly hy hry e => by
      have hya : a.get y ≠ none := hy
      have := hs.inj y l ly loc (hin y hya) (by rw [hx]; simp) hry k2 e
      subst this; exact hya ha
    obtain ⟨g1, g2⟩ := st.kept loc.blk (Array.getElem?_eq_some_iff.1 k3).1 hu
    exact ⟨loc, m, k2, hle _ _ k2, by rw [g1]; exact k3, k3, k4.mono hle, g2⟩
  have out : ∀ l x, (outT a o).get l = some x → ∃ loc m, l < nx' ∧ r' l = some loc ∧ w'.heap[loc.blk]? = some m ∧ ObjR P r' loc x m := fun l x hx => by
    obtain ⟨k1, loc, m, k2⟩ := st.sim.obj l x hx; exact ⟨loc, m, k1, k2⟩
  -- each living object is one or the other
  have cls : ∀ l x, (⟨mrg h.o a o, nx'⟩ : H).get l = some x → ((outT a o).get l ≠ none ∧ ∃ loc m, l < nx' ∧ r' l = some loc ∧ w'.heap[loc.blk]? = some m ∧ ObjR P r' loc x m) ∨ (h.get l = some x ∧ a.get l = none) := by
    intro l x hx
    rw [hget] at hx
    cases ha : a.get l with
    | none =>
      rw [ha] at hx
      cases hol : o.get l with
      | none => rw [hol, mrgV_none] at hx; exact .inr ⟨hx, rfl⟩
      | some y =>
        rw [hol] at hx
        have hout : (outT a o).get l = some y := by rw [get_outT, ha, hol]; rfl
        have hx2 : (∃ vs e, h.get l = some (.glob vs e) ∧ x = .glob vs e) ∨ x = y := by
          cases hhl : h.get l with
          | none => rw [hhl] at hx; simp only [mrgV, Option.some.injEq] at hx; exact .inr hx.symm
          | some z => rw [hhl] at hx; cases z <;> simp only [mrgV, Option.some.injEq] at hx <;> first | exact .inr hx.symm | exact .inl ⟨_, _, rfl, hx.symm⟩
        rcases hx2 with ⟨vs, e, h1, rfl⟩ | rfl
        · exact .inr ⟨h1, rfl⟩
        · exact .inl ⟨by rw [hout]; simp, out l x hout⟩
    | some y =>
      obtain ⟨y', hy1, hy2⟩ := hp l y ha
      have hhl : h.get l = some y' := hy1
      rw [ha, hhl] at hx
      by_cases hg : ∃ vs e, y' = .glob vs e
      · obtain ⟨vs, e, rfl⟩ := hg
        simp only [mrgV, Option.some.injEq] at hx; subst hx
        obtain ⟨vs2, rfl⟩ := leO_glob hy2
        obtain ⟨k1, loc, m, k2, k3, k4⟩ := hs.obj l _ hhl
        obtain ⟨g1, g2, g3⟩ := st.glob l vs2 e loc ha k2
        refine .inl ⟨?_, loc, m, Nat.lt_of_lt_of_le k1 st.nx, g2, by rw [g3]; exact k3, k4.mono hle⟩
        have g1' : (outT a o).get l = some (.glob vs2 e) := g1
        rw [g1']; simp
      · have hx2 : o.get l = some x := by
          cases y' <;> simp only [mrgV] at hx <;> first | exact hx | exact absurd ⟨_, _, rfl⟩ hg
        have hy : ∀ vs e, y ≠ .glob vs e := fun vs e he => by subst he; obtain ⟨vs', h'⟩ := glob_leO hy2; exact hg ⟨vs', e, h'⟩
        have hout : (outT a o).get l = some x := by
          rw [get_outT, ha]
          cases y <;> simp only [mrgV] <;> first | exact hx2 | exact absurd rfl (hy _ _)
        exact .inl ⟨by rw [hout]; simp, out l x hout⟩
  have clsl : ∀ l, (⟨mrg h.o a o, nx'⟩ : H).get l ≠ none → (outT a o).get l ≠ none ∨ (h.get l ≠ none ∧ a.get l = none) := fun l hl => by
    cases e : (⟨mrg h.o a o, nx'⟩ : H).get l with
    | none => exact absurd e hl
    | some x => rcases cls l x e with ⟨h1, -⟩ | ⟨h1, h2⟩
                · exact .inl h1
                · exact .inr ⟨by rw [h1]; simp, h2⟩
  have mix : ∀ l l' loc loc', (outT a o).get l ≠ none → h.get l' ≠ none → a.get l' = none → r' l = some loc → r' l' = some loc' → loc.blk ≠ loc'.blk := by
    intro l l' loc loc' h1 h2 h3 h4 h5
    cases e : h.get l' with
    | none => exact absurd e h2
    | some x =>
      obtain ⟨lc, m, k1, k2, -, -, -, k3⟩ := fr l' x e h3
      rw [k2] at h5; cases h5
      exact k3 l loc h1 h4
  refine ⟨st.ext, st.nx, ⟨fun l x hx => ?_, fun l l' loc loc' h1 h2 r1 r2 e => ?_, st.sim.fresh, st.sim.gn, st.sim.gl⟩, st.size, fun b hb hu => ?_, fun l vs e loc hl hr => ?_, st.os, st.tape, st.output⟩
  · rcases cls l x hx with ⟨-, loc, m, h1, h2⟩ | ⟨h1, h2⟩
    · exact ⟨h1, loc, m, h2⟩
    · obtain ⟨loc, m, k1, k2, k3, -, k4, -⟩ := fr l x h1 h2
      exact ⟨Nat.lt_of_lt_of_le (hs.obj l x h1).1 st.nx, loc, m, k2, k3, k4⟩
  · rcases clsl l h1 with c1 | ⟨c1, d1⟩
    · rcases clsl l' h2 with c2 | ⟨c2, d2⟩
      · exact st.sim.inj l l' loc loc' c1 c2 r1 r2 e
      · exact absurd e (mix l l' loc loc' c1 c2 d2 r1 r2)
    · rcases clsl l' h2 with c2 | ⟨c2, d2⟩
      · exact absurd e.symm (mix l' l loc' loc c2 c1 d1 r2 r1)
      · have q1 : r l = some loc := by rw [← st.ext l (hs.live_lt c1)]; exact r1
        have q2 : r l' = some loc' := by rw [← st.ext l' (hs.live_lt c2)]; exact r2
        exact hs.inj l l' loc loc' c1 c2 q1 q2 e
  · have hua : unowned r ⟨a, h.nx⟩ b := fun y ly hy hry => hu y ly (hin y hy) hry
    obtain ⟨g1, g2⟩ := st.kept b hb hua
    refine ⟨g1, fun l lx hl hrl => ?_⟩
    rcases clsl l hl with c1 | ⟨c1, -⟩
    · exact g2 l lx c1 hrl
    · exact hu l lx c1 (by rw [← st.ext l (hs.live_lt c1)]; exact hrl)
  · have g : (⟨mrg h.o a o, nx'⟩ : H).get l = some (.glob vs e) := by rw [hget, hl]; rfl
    refine ⟨g, hle _ _ hr, ?_⟩
    cases ha : a.get l with
    | none =>
      obtain ⟨lc, m, k1, -, k2, k3, -⟩ := fr l _ hl ha
      rw [hr] at k1; cases k1
      rw [k2, k3]
    | some y =>
      obtain ⟨y', hy1, hy2⟩ := hp l y ha
      have hhl : h.get l = some y' := hy1
      rw [hl] at hhl; cases hhl
      obtain ⟨vs2, rfl⟩ := leO_glob hy2
      exact (st.glob l vs2 e loc ha hr).2.2

/-! ### What was proved of a call -/
def EntOk (P : Program) (e : Ent) : Prop := ∀ r w args', VRs r e.args args'.toList → Sim P r ⟨e.part, e.nx⟩ w → Goes P (StepV P r ⟨e.part, e.nx⟩ w e.v ⟨outT e.part e.out, e.nx'⟩) ((callFunc e.f args').run P w)
theorem Goes.mono {R R' : Value → World → Prop} (hR : ∀ v w, R v w → R' v w) {res : Result Next} (hg : Goes P R res) : Goes P R' res := by
  unfold Goes at hg ⊢
  split at hg
  · exact hR _ _ hg
  · exact hR _ _ hg
  · intro n; exact (hg n).mono fun e w ⟨v, h1, h2⟩ => ⟨v, h1, hR _ _ h2⟩
  · intro n; exact (hg n).mono fun e w ⟨v, h1, h2⟩ => ⟨v, h1, hR _ _ h2⟩
  · exact hg
theorem beqArgs_sound {r : Ren} : ∀ (a b : List V) (l : List Value), beqL (beqV 40) a b = true → VRs r b l → VRs r a l
  | [], [], _, _, h => h
  | [], _ :: _, _, e, _ => by cases e
  | _ :: _, [], _, e, _ => by cases e
  | a :: x, b :: y, l, e, h => by
    simp only [beqL] at e
    cases hb : beqV 40 a b with
    | false => rw [hb] at e; cases e
    | true =>
      rw [hb] at e
      cases h with
      | cons hv t => exact .cons (beqV_sound 40 a b hb _ hv) (beqArgs_sound x y _ e t)
theorem findE_some {f nx : Nat} : ∀ {es : List Ent} {e : Ent}, findE f nx es = some e → e ∈ es ∧ e.f = f ∧ nx ≤ e.nx
  | [], _, h => by cases h
  | a :: es, e, h => by
    simp only [findE, beq_iff, ble_iff] at h
    split at h
    · rename_i hh
      simp only [Bool.and_eq_true, Bool.or_eq_true, decide_eq_true_eq] at hh
      simp only [Option.some.injEq] at h; subst h
      refine ⟨by simp, hh.2, ?_⟩
      rcases hh.1 with h1 | h1
      · omega
      · exact h1.2
    · obtain ⟨h1, h2⟩ := findE_some h
      exact ⟨by simp [h1], h2⟩
theorem useE_goes {e : Ent} (he : EntOk P e) {args : List V} {no : R} {v : V} {h' : H} (hnx : h.nx ≤ e.nx) (e1 : useE e args h no = some (v, h')) (hs : Sim P r h w) {args' : Array Value} (ha : VRs r args args'.toList)
    (hno : no = some (v, h') → Goes P (StepV P r h w v h') ((callFunc e.f args').run P w)) : Goes P (StepV P r h w v h') ((callFunc e.f args').run P w) := by
  unfold useE at e1
  split at e1
  · rename_i hh
    simp only [Bool.and_eq_true] at hh
    rw [mrgK_eq] at e1
    simp only [Option.some.injEq, Prod.mk.injEq] at e1
    obtain ⟨rfl, rfl⟩ := e1
    have hp : PartOf e.part h.o := fun l o hl => subT_spec _ _ hh.2 l o hl
    have hb := hs.bump (e.nx - h.nx)
    have hn : (h.bumpD (e.nx - h.nx)).nx = e.nx := by show h.nx + (e.nx - h.nx) = e.nx; omega
    have hsa : Sim P r ⟨e.part, (h.bumpD (e.nx - h.nx)).nx⟩ w := hb.sim.part hp
    have hg := he r w args' (beqArgs_sound _ _ _ hh.1 ha) (by rw [hn] at hsa; exact hsa)
    refine hg.mono ?_
    rintro v' w' ⟨r', st, hv⟩
    rw [← hn] at st
    exact ⟨r', hb.trans (Step.frame hb.sim hp st), hv⟩
  · exact hno e1
theorem body_goes (Fi : Fits p P) {cal : Cal} (hcal : CalOk P cal) {lf : Nat} {f : FuncId} {args : List V} {args' : Array Value} {v : V} {h' : H} (e : bodyC p cal lf f args h = some (v, h')) (hs : Sim P r h w) (ha : VRs r args args'.toList) :
    Goes P (StepV P r h w v h') ((callFunc f args').run P w) := by
  unfold bodyC at e
  cases hg : p.fn.get f with
  | none => rw [hg] at e; cases e
  | some g =>
    rw [hg] at e
    simp only [] at e
    cases hb : g.body with
    | none => rw [hb] at e; exact native_goes Fi hs hg hb ha e
    | some c => rw [hb] at e; exact enter_goes Fi hcal hs hg hb ha e
theorem callO_ok (Fi : Fits p P) {es : List Ent} (hes : ∀ e ∈ es, EntOk P e) (lf : Nat) : ∀ n, CalOk P (callO es p lf n) := by
  intro n
  induction n with
  | zero => intro fn args h v h' e; cases e
  | succ n ih =>
    intro fn args h v h' e r w fn' args' hfn ha hs
    cases hfn with
    | func f =>
      have e1 : (match findE f h.nx es with
        | some e => useE e args h (bodyC p (callO es p lf n) lf f args h)
        | none => bodyC p (callO es p lf n) lf f args h) = some (v, h') := e
      cases hf : findE f h.nx es with
      | none => rw [hf] at e1; exact body_goes Fi ih e1 hs ha
      | some x =>
        rw [hf] at e1
        obtain ⟨h1, rfl, h3⟩ := findE_some hf
        exact useE_goes (hes x h1) h3 e1 hs ha fun h4 => body_goes Fi ih h4 hs ha
    | yield hl => exact round_goes Fi ih hs hl ha e
/-- A call that was run over what it reads is proved. -/
theorem runE_ok (Fi : Fits p P) {es : List Ent} (hes : ∀ e ∈ es, EntOk P e) {lf n : Nat} {e : Ent} (hr : runE es p lf n e = true) : EntOk P e := by
  intro r w args' ha hs
  unfold runE at hr
  cases h1 : bodyC p (callO es p lf n) lf e.f e.args ⟨e.part, e.nx⟩ with
  | none => rw [h1] at hr; cases hr
  | some q =>
    rw [h1] at hr
    obtain ⟨v, o, nx⟩ := q
    simp only [chkR, Bool.and_eq_true, beq_iff, decide_eq_true_eq] at hr
    obtain ⟨rfl, h2, h3⟩ := hr
    refine (body_goes Fi (callO_ok Fi hes lf n) h1 hs ha).mono ?_
    rintro v' w' ⟨r', st, hv⟩
    exact ⟨r', st.out (fun l o hl => subT_spec _ _ h3 l o hl) hs, beqV_sound 40 _ _ h2 _ hv⟩
end Go.Am
