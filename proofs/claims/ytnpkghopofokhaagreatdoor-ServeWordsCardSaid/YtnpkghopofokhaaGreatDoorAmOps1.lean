/- A part of the abstract machine, or of a proof over it. -/
import Derived.Test.YtnpkghopofokhaaGreatDoorAmHeap
namespace Go.Am

/-- The machine's tables are the program's. -/
structure Fits (p : Pg) (P : Program) : Prop where
  ty : ∀ t i, p.ty.get t = some i → P.info? t = some i
  fn : ∀ f g, p.fn.get f = some g → P.funcs[f]? = some g ∧ g.name ≠ "runtime.NumGoroutine" ∧ (∀ c, g.body = some c → codeOk P.globals.size g.ntmps c = true)
  cmp : ∀ t, t ∈ p.cmp → P.stoodInHeld t = false ∧ ∃ fs, P.underlying t = some (.struct fs) ∧ ∀ (i : Nat) (f : Field), fs[i]? = some f → f.name ≠ "_" ∧ f.offset = i
  lies : ∀ e o u, (e, o, u) ∈ p.lies → liesAt P P.depth e 1 o u 1 = true
  ext : ∀ f g, p.fn.get f = some g → g.body = none → (Extern.findNext g).isNone = true
  mixed : P.follows .mixedOrders = true

variable {p : Pg} {P : Program} {r : Ren} {h : H} {w : World}

theorem und_sound (F : Fits p P) {t : Nat} {d : TypeDesc} (e : und p t = some d) : P.underlying t = some d := by
  unfold und at e
  cases hi : p.ty.get t with
  | none => rw [hi] at e; cases e
  | some i =>
    rw [hi] at e
    have hI := F.ty t i hi
    unfold Program.underlying
    rw [hI]
    obtain ⟨desc, str, size, bytes, hp, al, fal, zero, cmp, ms⟩ := i
    cases desc <;> try exact e
    rename_i n u
    simp only [] at e ⊢
    cases hu : p.ty.get u with
    | none => rw [hu] at e; cases e
    | some j => rw [hu] at e; rw [F.ty u j hu]; exact e
theorem run_und (F : Fits p P) {t : Nat} {d : TypeDesc} (e : und p t = some d) (w : World) : (underlying t).run P w = .ok d w := run_underlying (und_sound F e) w
theorem szOf_sound (F : Fits p P) {t n : Nat} (e : szOf p t = some n) : ∃ i, P.info? t = some i ∧ i.size = n := by
  unfold szOf at e
  cases hi : p.ty.get t with
  | none => rw [hi] at e; cases e
  | some i => rw [hi] at e; exact ⟨i, F.ty t i hi, by simpa using e⟩
theorem run_info {t : TypeId} {i : TypeInfo} (e : P.info? t = some i) (w : World) : (typeInfo t).run P w = .ok i w := by simp [typeInfo, e]
theorem run_size {t : TypeId} {i : TypeInfo} (e : P.info? t = some i) (w : World) : (sizeOf t).run P w = .ok i.size w := by simp [sizeOf, run_info e]
theorem run_sz (F : Fits p P) {t n : Nat} (e : szOf p t = some n) (w : World) : (sizeOf t).run P w = .ok n w := by
  obtain ⟨i, hi, hn⟩ := szOf_sound F e; rw [run_size hi, hn]
theorem run_isAg (F : Fits p P) {t : Nat} {b : Bool} (e : isAg p t = some b) (w : World) : (isAgg t).run P w = .ok b w := by
  unfold isAg at e
  cases hd : und p t with
  | none => rw [hd] at e; cases e
  | some d =>
    rw [hd] at e
    unfold isAgg
    rw [Sem.run_bind, run_und F hd]
    cases d <;> simp_all
theorem absC_sound (r : Ren) (f : Nat) : ∀ v, VR r (absC f v) v := by
  induction f with
  | zero => exact fun v => .top v
  | succ f ih =>
    have ihs : ∀ l : List Value, VRs r (l.map (absC f)) l := fun l => by
      induction l with
      | nil => exact .nil
      | cons v l ihl => exact .cons (ih v) ihl
    intro v
    cases v with
    | bool b => exact .bool b
    | int k n => exact .int k n
    | float k b => exact .any _ rfl
    | complex k a b => exact .any _ rfl
    | string s => simp only [absC, forceB_eq]; exact .str s
    | pointer a => cases a with
      | none => exact .nilp
      | some a => exact .any _ rfl
    | slice a n c => cases a with
      | none =>
        cases n with
        | zero => cases c with
          | zero => exact .nils
          | succ c => exact .any _ rfl
        | succ n => exact .any _ rfl
      | some a => exact .any _ rfl
    | map a => cases a with
      | none => exact .nilm
      | some a => exact .any _ rfl
    | chan a => exact .any _ rfl
    | func fn a b =>
      cases fn with
      | func g =>
        simp only [absC]
        cases ha : a.toList with
        | nil => cases hb : b.toList with
          | nil => exact .func (by rw [ha]; exact .nil) (by rw [hb]; exact .nil)
          | cons x y => exact .any _ rfl
        | cons x y => exact .any _ rfl
      | method n => exact .any _ rfl
      | methodOf t n => exact .any _ rfl
      | via t q g b => exact .any _ rfl
      | yield l => exact .any _ rfl
    | nilFunc => exact .nilf
    | iface t v => exact .iface (ih v)
    | nilIface => exact .nili
    | agg cs => simp only [absC, forceL_eq]; exact .agg (ihs _)
    | tuple cs => simp only [absC, forceL_eq]; exact .tup (ihs _)
theorem absC_notTop (f : Nat) (v : Value) : absC (f + 1) v ≠ .top := by
  cases v with
  | string s => simp [absC, forceB_eq]
  | pointer a => cases a <;> simp [absC]
  | slice a n c => cases a with
    | none => cases n with
      | zero => cases c <;> simp [absC]
      | succ n => simp [absC]
    | some a => simp [absC]
  | map a => cases a <;> simp [absC]
  | func fn a b => cases fn with
    | func g =>
      simp only [absC]
      split <;> simp
    | _ => simp [absC]
  | agg cs => simp [absC, forceL_eq]
  | tuple cs => simp [absC, forceL_eq]
  | _ => simp [absC]
theorem zeroOf_sound (F : Fits p P) (r : Ren) {t : Nat} {z : V} (e : zeroOf p t = some z) : ∃ i v, P.info? t = some i ∧ i.zero = some v ∧ VR r z v ∧ z ≠ .top := by
  unfold zeroOf at e
  cases hi : p.ty.get t with
  | none => rw [hi] at e; cases e
  | some i =>
    rw [hi] at e
    simp only [] at e
    cases hz : i.zero with
    | none => rw [hz] at e; cases e
    | some v =>
      rw [hz] at e
      simp only [Option.map_some, Option.some.injEq] at e
      refine ⟨i, v, F.ty t i hi, hz, e ▸ absC_sound r 20 v, ?_⟩
      subst e
      exact absC_notTop 19 v
theorem run_zero {t : TypeId} {i : TypeInfo} {v : Value} (e : P.info? t = some i) (hz : i.zero = some v) (w : World) : (zeroValue t).run P w = .ok v w := by
  simp [zeroValue, run_info e, hz]

/-! ### Operands -/
theorem undef_sound (r : Ren) : VR r undef Go.undef := .tup .nil
theorem opk_eq {β : Type} (env : T V) (x : Operand) (k : V → β) : opk env x k = k (opd env x) := by
  cases x with
  | tmp t => show getK (env.get t) k = k (opd env (.tmp t)); simp only [opd]; cases env.get t <;> rfl
  | const v => rfl
  | global g => rfl
  | func f => rfl
theorem opks_eq {β : Type} (env : T V) : ∀ (xs : List Operand) (k : List V → β), opks env xs k = k (xs.map (opd env))
  | [], _ => rfl
  | x :: xs, k => by simp only [opks, opk_eq, opks_eq env xs, List.map_cons]
theorem parts_eq (env : T V) : ∀ (xs : List (Nat × Operand)) (k : List (Nat × V) → R), parts env xs k = k (xs.map fun (i, x) => (i, opd env x))
  | [], _ => rfl
  | (i, x) :: xs, k => by simp only [parts, opk_eq, parts_eq env xs, List.map_cons]
theorem opkO_eq {β : Type} (env : T V) (x : Option Operand) (k : Option V → β) : opkO env x k = k (x.map (opd env)) := by
  cases x <;> simp [opkO, opk_eq]
theorem opd_sound (hs : Sim P r h w) {env : T V} {a : Act} (he : EnvR r env a.tmps) {x : Operand} (hg : glOk P.globals.size [x] = true) : VR r (opd env x) (a.eval x) := by
  cases x with
  | tmp t =>
    have := he t
    unfold opdAt at this
    simp only [opd]
    cases hh : env.get t with
    | none => rw [hh] at this; exact this
    | some v => rw [hh] at this; exact this
  | const v => exact absC_sound r 20 v
  | global g =>
    simp only [glOk, blt_iff, Bool.and_true, decide_eq_true_eq] at hg
    obtain ⟨loc, h1, h2, h3⟩ := hs.gl g hg
    have := VR.ptr (r := r) (o := 0) h1
    rw [h2, h3] at this
    exact this
  | func f => exact .func .nil .nil
theorem glOk_cons {g : Nat} {x : Operand} {l : List Operand} (h : glOk g (x :: l) = true) : glOk g [x] = true ∧ glOk g l = true := by
  cases x <;> simp_all [glOk]
theorem opds_sound (hs : Sim P r h w) {env : T V} {a : Act} (he : EnvR r env a.tmps) : ∀ {xs : List Operand}, glOk P.globals.size xs = true → VRs r (xs.map (opd env)) (xs.map a.eval)
  | [], _ => .nil
  | _ :: _, hg => .cons (opd_sound hs he (glOk_cons hg).1) (opds_sound hs he (glOk_cons hg).2)
theorem glOk_append {g : Nat} : ∀ {l m : List Operand}, glOk g (l ++ m) = true → glOk g l = true ∧ glOk g m = true
  | [], _, h => ⟨rfl, h⟩
  | x :: l, m, h => by
    have h1 := glOk_cons h
    have h2 := glOk_append (l := l) h1.2
    refine ⟨?_, h2.2⟩
    cases x <;> simp_all [glOk]

/-! ### Parts of aggregates -/
theorem run_part (F : Fits p P) {t : Nat} {cs : List V} {cs' : Array Value} {off : Nat} {v : V} (hc : VRs r cs cs'.toList) (e : part p t cs off = some v) (w : World) :
    ∃ v', (Go.part t cs' off).run P w = .ok v' w ∧ VR r v v' := by
  unfold Am.part at e
  cases ha : isAg p t with
  | none => rw [ha] at e; cases e
  | some b =>
    rw [ha] at e
    unfold Go.part
    rw [Sem.run_bind, run_isAg F ha]
    cases b with
    | true =>
      simp only [] at e
      cases hz : szOf p t with
      | none => rw [hz] at e; cases e
      | some n =>
        rw [hz] at e
        simp only [ble_iff, len_eq] at e
        by_cases hle : off + n ≤ cs.length
        · rw [show decide (off.add n ≤ cs.length) = true from decide_eq_true hle] at e
          simp only [forceL_eq, takeL_eq, dropL_eq, Option.some.injEq] at e
          subst e
          refine ⟨.agg (cs'.extract off (off + n)), by simp [run_sz F hz], .agg ?_⟩
          rw [Array.toList_extract, List.extract_eq_drop_take']
          have := (hc.drop off).take n
          rw [List.drop_take, show off + n - off = n by omega]; exact this
        · rw [show decide (off.add n ≤ cs.length) = false from decide_eq_false hle] at e; cases e
    | false =>
      simp only [nth_eq] at e
      obtain ⟨v', h1, h2⟩ := hc.get e
      rw [Array.getElem?_toList] at h1
      exact ⟨v', by simp [h1], h2⟩

/-! ### Loads -/
theorem Addr.add_none (b o n : Nat) : (⟨b, o, none⟩ : Addr).add n = ⟨b, o + n, none⟩ := by unfold Addr.add; split <;> simp_all
theorem cellsOf_sound (hs : Sim P r h w) {l : Nat} {vs : T V} {loc : Loc} (hr : r l = some loc) (e : cellsOf (h.get l) = some vs) :
    ∀ i v, vs.get i = some v → ∃ v', w.cell? ⟨loc.blk, loc.off + i, none⟩ = some v' ∧ VR r v v' := by
  intro i v hv
  cases hl : h.get l with
  | none => rw [hl] at e; cases e
  | some o =>
    rw [hl] at e
    obtain ⟨-, loc', m, h1, h2, h3⟩ := hs.obj l o hl
    rw [hr] at h1; cases h1
    cases o with
    | cells vs' n elem frz opn =>
      simp only [cellsOf, Option.some.injEq] at e; subst e
      obtain ⟨c, lo, hi, rfl, h4, -⟩ := h3
      obtain ⟨-, v', h5, h6⟩ := h4 i v hv
      exact ⟨v', by simp [World.cell?, h2, h5], h6⟩
    | glob vs' elem =>
      simp only [cellsOf, Option.some.injEq] at e; subst e
      obtain ⟨c, fr, n, rfl, h4⟩ := h3
      obtain ⟨-, v', h5, h6⟩ := h4 i v hv
      exact ⟨v', by simp [World.cell?, h2, h5], h6⟩
    | _ => simp [cellsOf] at e
theorem cells_at (hs : Sim P r h w) {l o n : Nat} {cs : List V} {loc : Loc} (hr : r l = some loc) (e : loadN h l o n = some cs) :
    ∃ cs' : List Value, cs'.length = n ∧ VRs r cs cs' ∧ ∀ i v', cs'[i]? = some v' → w.cell? ⟨loc.blk, loc.off + o + i, none⟩ = some v' := by
  unfold loadN rangeOf at e
  cases hc : cellsOf (h.get l) with
  | none => rw [hc] at e; cases e
  | some vs =>
    rw [hc] at e
    simp only [T.range_some] at e
    have key := cellsOf_sound hs hr hc
    obtain ⟨hlen, hget⟩ := e
    clear hc
    induction cs generalizing o n with
    | nil => exact ⟨[], by simpa using hlen, .nil, fun i v' hh => by simp at hh⟩
    | cons v cs ih =>
      cases n with
      | zero => simp at hlen
      | succ n =>
        obtain ⟨cs', h1, h2, h3⟩ := ih (o := o + 1) (n := n) (by simpa using hlen) (fun i hi => by
          have := hget (i + 1) (by omega)
          rw [List.getElem?_cons_succ] at this
          rw [← this]; congr 1; omega)
        have h0 := hget 0 (by omega)
        simp only [Nat.add_zero, List.getElem?_cons_zero] at h0
        obtain ⟨v', h4, h5⟩ := key o v h0
        refine ⟨v' :: cs', by simp [h1], .cons h5 h2, fun i x hx => ?_⟩
        cases i with
        | zero => simp only [List.getElem?_cons_zero, Option.some.injEq] at hx; subst hx; exact h4
        | succ i => rw [List.getElem?_cons_succ] at hx; rw [← h3 i x hx]; congr 2; omega
theorem run_loadNd (hs : Sim P r h w) {l o n : Nat} {cs : List V} {loc : Loc} (hr : r l = some loc) (e : loadN h l o n = some cs) :
    ∃ cs' : List Value, (∀ d, (loadCells ⟨loc.blk, loc.off + o, none⟩ n).run P { w with drawn := d } = .ok cs'.toArray { w with drawn := d }) ∧ VRs r cs cs' ∧ cs'.length = n := by
  obtain ⟨cs', h1, h2, h3⟩ := cells_at hs hr e
  refine ⟨cs', fun d => ?_, h2, h1⟩
  rw [← h1]
  exact run_loadCells_list _ _ cs' fun j v hv => by rw [Addr.add_none]; exact h3 j v hv
theorem run_loadN (hs : Sim P r h w) {l o n : Nat} {cs : List V} {loc : Loc} (hr : r l = some loc) (e : loadN h l o n = some cs) :
    ∃ cs' : List Value, (loadCells ⟨loc.blk, loc.off + o, none⟩ n).run P w = .ok cs'.toArray w ∧ VRs r cs cs' ∧ cs'.length = n := by
  obtain ⟨cs', h1, h2, h3⟩ := run_loadNd hs hr e
  exact ⟨cs', h1 w.drawn, h2, h3⟩
theorem run_loadV (F : Fits p P) (hs : Sim P r h w) {t l o : Nat} {v : V} {loc : Loc} (hr : r l = some loc) (e : loadV p t h l o = some v) :
    ∃ v', (loadVar t ⟨loc.blk, loc.off + o, none⟩).run P w = .ok v' w ∧ VR r v v' := by
  unfold loadV at e
  unfold loadVar
  rw [Sem.run_bind]
  cases ha : isAg p t with
  | none => rw [ha] at e; cases e
  | some b =>
    rw [ha] at e
    rw [run_isAg F ha]
    cases b with
    | true =>
      simp only [] at e
      cases hz : szOf p t with
      | none => rw [hz] at e; cases e
      | some n =>
        rw [hz] at e
        simp only [] at e
        cases hl : loadN h l o n with
        | none => rw [hl] at e; cases e
        | some cs =>
          rw [hl] at e
          simp only [aggO, Option.some.injEq] at e
          subst e
          obtain ⟨cs', h1, h2, -⟩ := run_loadN hs hr hl
          exact ⟨.agg cs'.toArray, by simp [run_sz F hz, h1], .agg (by simpa using h2)⟩
    | false =>
      simp only [getOf] at e
      cases hc : cellsOf (h.get l) with
      | none => rw [hc] at e; cases e
      | some vs =>
        rw [hc] at e
        obtain ⟨v', h1, h2⟩ := cellsOf_sound hs hr hc o v e
        exact ⟨v', by simp [h1], h2⟩
theorem run_loadP (F : Fits p P) (hs : Sim P r h w) {t : Nat} {a v : V} {a' : Value} (ha : VR r a a') (e : loadP p t a h = some v) :
    ∃ v', (Instr.loadAt t a').run P w = .ok v' w ∧ VR r v v' := by
  cases ha <;> simp only [loadP] at e <;> try (cases e; done)
  rename_i l o loc hr
  obtain ⟨v', h1, h2⟩ := run_loadV F hs hr e
  exact ⟨v', by simp [Instr.loadAt, Instr.sureAddr, h1], h2⟩

/-! ### Stores -/
theorem setCells_heap (b : Nat) : ∀ (vs : List Value) (o : Nat) (w : World) (c : Array Value) (e : TypeId) (fr : Nat × Nat), w.heap[b]? = some (.cells c e fr) → o + vs.length ≤ c.size →
    (w.setCells b o vs).heap.size = w.heap.size ∧ (∀ k, k ≠ b → (w.setCells b o vs).heap[k]? = w.heap[k]?) ∧ (w.setCells b o vs).os = w.os ∧ (w.setCells b o vs).tape = w.tape ∧ (w.setCells b o vs).output = w.output ∧
    ∃ c', (w.setCells b o vs).heap[b]? = some (.cells c' e fr) ∧ c'.size = c.size ∧ ∀ i, c'[i]? = if o ≤ i ∧ i < o + vs.length then vs[i - o]? else c[i]?
  | [], o, w, c, e, fr, hb, _ => ⟨rfl, fun _ _ => rfl, rfl, rfl, rfl, c, hb, rfl, fun i => by rw [if_neg (by simp only [List.length_nil]; omega)]⟩
  | v :: vs, o, w, c, e, fr, hb, hle => by
    have hb1 : (w.setCell ⟨b, o, none⟩ v).heap[b]? = some (.cells (c.setIfInBounds o v) e fr) := by simp [World.setCell, Array.getElem?_modify, hb]
    obtain ⟨h1, h2, h3, h4, h5, c', h6, h7, h8⟩ := setCells_heap b vs (o + 1) (w.setCell ⟨b, o, none⟩ v) (c.setIfInBounds o v) e fr hb1 (by simp at hle ⊢; omega)
    refine ⟨by rw [World.setCells, h1]; simp, fun k hk => ?_, h3, h4, h5, c', h6, by rw [h7]; simp, fun i => ?_⟩
    · rw [World.setCells, h2 k hk]; simp only [World.setCell, Array.getElem?_modify]; rw [if_neg (by exact fun e => hk e.symm)]
    · rw [h8]
      by_cases hi : o + 1 ≤ i ∧ i < o + 1 + vs.length
      · rw [if_pos hi, if_pos (by simp; omega)]
        rw [show i - o = (i - (o + 1)) + 1 by omega, List.getElem?_cons_succ]
      · rw [if_neg hi]
        by_cases hio : i = o
        · subst hio
          rw [if_pos (by simp)]
          simp only [List.length_cons] at hle
          simp [Array.getElem?_setIfInBounds]; omega
        · rw [if_neg (by simp only [List.length_cons]; omega), Array.getElem?_setIfInBounds, if_neg (fun e => hio e.symm)]
theorem storeN_some {β : Type} {l o : Nat} {cs : List V} {k : H → Option β} {x : β} (e : storeN h l o cs k = some x) :
    (cs = [] ∧ k h = some x) ∨ ∃ vs n elem frz opn, h.get l = some (.cells vs n elem frz opn) ∧ o + cs.length ≤ n ∧ fzOk o frz = true ∧ plains cs = true ∧ k (h.setD l (.cells (vs.puts o cs) n elem frz opn)) = some x := by
  cases cs with
  | nil => exact .inl ⟨rfl, e⟩
  | cons v cs =>
    right
    simp only [storeN] at e
    cases hl : h.get l with
    | none => rw [hl] at e; cases e
    | some ob =>
      rw [hl] at e
      cases ob with
      | cells vs n elem frz opn =>
        simp only [ble_iff, len_eq] at e
        by_cases hc : o + (v :: cs).length ≤ n
        · have hd : decide (o.add (v :: cs).length ≤ n) = true := decide_eq_true hc
          rw [hd] at e
          cases hf : fzOk o frz with
          | false => rw [hf] at e; simp at e
          | true =>
            cases hp : plains (v :: cs) with
            | false => rw [hf, hp] at e; simp at e
            | true =>
              rw [hf, hp] at e
              simp only [Bool.and_self, T.putsK_eq, H.set_eq] at e
              exact ⟨vs, n, elem, frz, opn, rfl, hc, hf, rfl, e⟩
        · have hd : decide (o.add (v :: cs).length ≤ n) = false := decide_eq_false hc
          rw [hd] at e; simp at e
      | _ => simp at e
theorem fz_store {lo hi : Nat} {loc : Loc} {frz : Fz} {o : Nat} (hf : FzR lo hi loc frz) (ho : fzOk o frz = true) : ∀ i, o ≤ i → i < loc.lim → ¬ (lo ≤ loc.off + i ∧ loc.off + i < hi) := by
  intro i hi1 hi2
  cases frz with
  | no => obtain ⟨rfl, rfl⟩ := hf; omega
  | pre z => simp only [fzOk, ble_iff, decide_eq_true_eq] at ho; simp only [FzR] at hf; omega
  | tail => exact hf i hi2
theorem run_storeN (hs : Sim P r h w) {l o : Nat} {cs : List V} {cs' : List Value} {loc : Loc} {vs : T V} {n elem : Nat} {frz : Fz} {opn : Bool} (hr : r l = some loc) (hc : VRs r cs cs')
    (hl : h.get l = some (.cells vs n elem frz opn)) (h1 : o + cs.length ≤ n) (h2 : fzOk o frz = true) (h3 : plains cs = true) :
    ∃ w', (storeCells ⟨loc.blk, loc.off + o, none⟩ cs').run P w = .ok () w' ∧ Step P r h w r (h.setD l (.cells (vs.puts o cs) n elem frz opn)) w' := by
  obtain ⟨-, loc', m, e1, e2, c, lo, hi, rfl, hR, hlim, hsz, hop, hfz, hel⟩ := hs.obj l _ hl
  rw [hr] at e1; cases e1
  have hlen := hc.length
  have hcell : ∀ j, j < cs'.length → (w.cell? ⟨loc.blk, loc.off + o + 0 + j, none⟩).isSome = true := fun j hj => by
    simp only [World.cell?, e2]; simp; omega
  have hfr : ∀ j, j < cs'.length → w.frozen? ⟨loc.blk, loc.off + o + 0 + j, none⟩ = false := fun j hj => by
    have := fz_store hfz h2 (o + j) (by omega) (by omega)
    simp only [World.frozen?, e2]
    rw [Bool.eq_false_iff]
    intro hh
    simp only [Bool.and_eq_true, decide_eq_true_eq] at hh
    exact this ⟨by omega, by omega⟩
  have hrun := run_storeCells_cells (P := P) loc.blk (loc.off + o) cs' 0 w hcell hfr (hc.plains h3)
  obtain ⟨k1, k2, k3, k4, k5, c', k6, k7, k8⟩ := setCells_heap loc.blk cs' (loc.off + o) w c elem (lo, hi) e2 (by omega)
  refine ⟨_, hrun, hs.set hl (by simp) hr k1 k6 k2 ?_ k3 k4 k5⟩
  refine ⟨c', lo, hi, rfl, fun i v hv => ?_, hlim, by rw [k7]; exact hsz, hop, hfz, hel⟩
  rw [T.get_puts] at hv
  rw [k8]
  by_cases hi' : o ≤ i ∧ i < o + cs.length
  · rw [if_pos hi'] at hv
    refine ⟨by omega, ?_⟩
    rw [if_pos (by omega)]
    obtain ⟨v', h5, h6⟩ := hc.get hv
    exact ⟨v', by rw [show loc.off + i - (loc.off + o) = i - o by omega]; exact h5, h6⟩
  · rw [if_neg hi'] at hv
    obtain ⟨a, v', h5, h6⟩ := hR i v hv
    refine ⟨a, v', ?_, h6⟩
    rw [if_neg (by omega)]; exact h5
theorem notTop_true {no yes : Bool} {v : V} (e : notTop no yes v = true) (hn : no = false) : v ≠ .top ∧ yes = true := by
  cases v <;> simp_all [notTop]
theorem run_storeP (F : Fits p P) (hs : Sim P r h w) {t : Nat} {a x : V} {a' x' : Value} {h' : H} (ha : VR r a a') (hx : VR r x x') (e : storeP p t a x h = some h') :
    ∃ w', (Instr.storeAt t a' x').run P w = .ok () w' ∧ Step P r h w r h' w' := by
  cases ha <;> simp only [storeP] at e <;> try (cases e; done)
  rename_i l o loc hr
  cases hz : szOf p t with
  | none => rw [hz] at e; cases e
  | some s =>
    rw [hz] at e
    simp only [] at e
    cases hb : notTop false ((len x.cells).beq s) x with
    | false => rw [hb] at e; cases e
    | true =>
      rw [hb] at e
      obtain ⟨hnt, hb'⟩ := notTop_true hb rfl
      rw [beq_iff, len_eq, decide_eq_true_eq] at hb'
      have hc := hx.cells hnt
      have hlen : x'.cells.size = s := by rw [← Array.length_toList, ← hc.length, hb']
      have hvar : (Instr.storeAt t (.pointer (some ⟨loc.blk, loc.off + o, none⟩)) x').run P w = (storeCells ⟨loc.blk, loc.off + o, none⟩ x'.cells.toList).run P w := by
        simp [Instr.storeAt, Instr.sureAddr, storeVar, run_sz F hz, hlen]
      rcases storeN_some e with ⟨hnil, hk⟩ | ⟨vs, n, elem, frz, opn, hl, h1, h2, h3, hk⟩
      · cases hk
        have : x'.cells.toList = [] := by
          have := hc.length; rw [hnil] at this; exact List.length_eq_zero_iff.1 this.symm
        refine ⟨w, ?_, Step.refl hs⟩
        rw [hvar, this]; rfl
      · cases hk
        obtain ⟨w', h4, h5⟩ := run_storeN hs hr hc hl h1 h2 h3
        exact ⟨w', by rw [hvar]; exact h4, h5⟩

/-! ### New rows -/
theorem newRow_eq {β : Type} (h : H) (elem : Nat) (cs : List V) (opn : Bool) (frz : Fz) (k : Nat → H → β) :
    newRow h elem cs opn frz k = k h.nx (h.newD (.cells (T.lf.puts 0 cs) cs.length elem frz opn)) := by
  unfold newRow
  rw [T.putsK_eq, forceNat_eq, H.new_eq, len_eq]
/-- A new row of cells, with or without cells behind the known ones. -/
theorem Sim.row (hs : Sim P r h w) {elem : Nat} {cs : List V} {cs' rest : List Value} {opn : Bool} {frz : Fz} {lo hi esz : Nat} (hc : VRs r cs cs') (hop : opn = false → rest = [])
    (hfz : FzR lo hi ⟨w.heap.size, 0, cs'.length + rest.length, esz⟩ frz) (hel : opn = true → ∃ i, P.info? elem = some i ∧ i.size = esz) {w' : World} (hh : w'.heap = w.heap.push (.cells (cs' ++ rest).toArray elem (lo, hi)))
    (e1 : w'.os = w.os) (e2 : w'.tape = w.tape) (e3 : w'.output = w.output) :
    Step P r h w (r.at h.nx ⟨w.heap.size, 0, cs'.length + rest.length, esz⟩) (h.newD (.cells (T.lf.puts 0 cs) cs.length elem frz opn)) w' := by
  refine hs.new rfl hh ⟨_, lo, hi, rfl, fun i v hv => ?_, by rw [hc.length]; simp, by simp, fun hb => ⟨rfl, by rw [hop hb, hc.length]; simp⟩, hfz, hel⟩ e1 e2 e3
  rw [T.get_puts] at hv
  by_cases hi' : 0 ≤ i ∧ i < 0 + cs.length
  · rw [if_pos hi'] at hv
    obtain ⟨v', h5, h6⟩ := hc.get hv
    have hlt : i < cs'.length := by rw [← hc.length]; omega
    exact ⟨by omega, v', by simp only [Nat.zero_add, List.getElem?_toArray]; rw [List.getElem?_append_left hlt]; simpa using h5, h6.mono (Ren.le_at _ (hs.fresh _ (Nat.le_refl _)))⟩
  · rw [if_neg hi', T.get_lf] at hv; cases hv
end Go.Am
