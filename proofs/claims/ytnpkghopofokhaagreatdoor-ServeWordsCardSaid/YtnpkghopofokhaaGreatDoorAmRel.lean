/- A part of the abstract machine, or of a proof over it. -/
import Derived.Test.YtnpkghopofokhaaGreatDoorAmLists
import Derived.Laws.IdiomCopy
import Derived.RangeFuncLeaves
import Derived.OrdersIn
namespace Go.Am

/-- Where an object lies: its block, its first cell there, how many cells the block has from there on, and how many cells an element has. -/
structure Loc where
  blk : Nat
  off : Nat
  lim : Nat
  esz : Nat
abbrev Ren := Nat → Option Loc

mutual
/-- A value of the machine tells a value of the model. -/
inductive VR (r : Ren) : V → Value → Prop
  | bool (b : Bool) : VR r (.bool b) (.bool b)
  | int (k : IntKind) (n : Int) : VR r (.int k n) (.int k n)
  | str (s : ByteArray) : VR r (.str (s.data.toList.map UInt8.toNat)) (.string s)
  | nilp : VR r .nilp (.pointer none)
  | ptr {l o : Nat} {loc : Loc} (h : r l = some loc) : VR r (.ptr l o) (.pointer (some ⟨loc.blk, loc.off + o, none⟩))
  | nils : VR r .nils (.slice none 0 0)
  | sl {l o n c : Nat} {loc : Loc} (h : r l = some loc) : VR r (.sl l o n (some c)) (.slice (some ⟨loc.blk, loc.off + o, none⟩) n c)
  | slo {l o n : Nat} {loc : Loc} (c : Nat) (h : r l = some loc) (hc : o + c * loc.esz = loc.lim) : VR r (.sl l o n none) (.slice (some ⟨loc.blk, loc.off + o, none⟩) n c)
  | sl0 (a : Addr) (c : Nat) : VR r .sl0 (.slice (some a) 0 c)
  | nilm : VR r .nilm (.map none)
  | map {l : Nat} {loc : Loc} (h : r l = some loc) : VR r (.map l) (.map (some loc.blk))
  | func {f : FuncId} {a b : List V} {a' b' : Array Value} (ha : VRs r a a'.toList) (hb : VRs r b b'.toList) : VR r (.func (.func f) a b) (.func (.func f) a' b')
  | yield {l : Nat} {loc : Loc} (h : r l = some loc) : VR r (.func (.yield l) [] []) (.func (.yield loc.blk) #[] #[])
  | nilf : VR r .nilf .nilFunc
  | iface {t : Nat} {v : V} {v' : Value} (h : VR r v v') : VR r (.iface t v) (.iface t v')
  | nili : VR r .nili .nilIface
  | agg {vs : List V} {cs : Array Value} (h : VRs r vs cs.toList) : VR r (.agg vs) (.agg cs)
  | tup {vs : List V} {cs : Array Value} (h : VRs r vs cs.toList) : VR r (.tup vs) (.tuple cs)
  | any (v : Value) (h : v.oneCell' = true) : VR r .any v
  | top (v : Value) : VR r .top v
inductive VRs (r : Ren) : List V → List Value → Prop
  | nil : VRs r [] []
  | cons {v : V} {v' : Value} {l : List V} {l' : List Value} (h : VR r v v') (t : VRs r l l') : VRs r (v :: l) (v' :: l')
end

def Ren.le (r r' : Ren) : Prop := ∀ l loc, r l = some loc → r' l = some loc
theorem Ren.le_refl (r : Ren) : r.le r := fun _ _ h => h
theorem Ren.le_trans {a b c : Ren} (h : a.le b) (k : b.le c) : a.le c := fun l loc e => k l loc (h l loc e)

mutual
theorem VR.mono {r r' : Ren} (hr : r.le r') : ∀ {v : V} {v' : Value}, VR r v v' → VR r' v v'
  | _, _, .bool b => .bool b
  | _, _, .int k n => .int k n
  | _, _, .str s => .str s
  | _, _, .nilp => .nilp
  | _, _, .ptr h => .ptr (hr _ _ h)
  | _, _, .nils => .nils
  | _, _, .sl h => .sl (hr _ _ h)
  | _, _, .slo c h hc => .slo c (hr _ _ h) hc
  | _, _, .sl0 a c => .sl0 a c
  | _, _, .nilm => .nilm
  | _, _, .map h => .map (hr _ _ h)
  | _, _, .func ha hb => .func (VRs.mono hr ha) (VRs.mono hr hb)
  | _, _, .yield h => .yield (hr _ _ h)
  | _, _, .nilf => .nilf
  | _, _, .iface h => .iface (VR.mono hr h)
  | _, _, .nili => .nili
  | _, _, .agg h => .agg (VRs.mono hr h)
  | _, _, .tup h => .tup (VRs.mono hr h)
  | _, _, .any v h => .any v h
  | _, _, .top v => .top v
theorem VRs.mono {r r' : Ren} (hr : r.le r') : ∀ {l : List V} {l' : List Value}, VRs r l l' → VRs r' l l'
  | _, _, .nil => .nil
  | _, _, .cons h t => .cons (VR.mono hr h) (VRs.mono hr t)
end

theorem VRs.length {r : Ren} : ∀ {l : List V} {l' : List Value}, VRs r l l' → l.length = l'.length
  | _, _, .nil => rfl
  | _, _, .cons _ t => by simp [VRs.length t]
theorem VRs.get {r : Ren} : ∀ {l : List V} {l' : List Value}, VRs r l l' → ∀ {i : Nat} {v : V}, l[i]? = some v → ∃ v', l'[i]? = some v' ∧ VR r v v'
  | _, _, .nil, i, v, h => by simp at h
  | _, _, .cons hv t, 0, v, h => by simp at h; subst h; exact ⟨_, rfl, hv⟩
  | _, _, .cons hv t, i + 1, v, h => by simpa using VRs.get t (by simpa using h)
theorem VRs.of_get {r : Ren} : ∀ {l : List V} {l' : List Value}, l.length = l'.length → (∀ (i : Nat) (v : V), l[i]? = some v → ∃ v', l'[i]? = some v' ∧ VR r v v') → VRs r l l'
  | [], [], _, _ => .nil
  | [], _ :: _, h, _ => by simp at h
  | _ :: _, [], h, _ => by simp at h
  | v :: l, v' :: l', h, hh => by
    refine .cons ?_ (VRs.of_get (by simpa using h) fun i x hx => ?_)
    · obtain ⟨u, hu, hv⟩ := hh 0 v rfl; simp at hu; subst hu; exact hv
    · simpa using hh (i + 1) x (by simpa using hx)
theorem VRs.append {r : Ren} : ∀ {a : List V} {a' : List Value} {b : List V} {b' : List Value}, VRs r a a' → VRs r b b' → VRs r (a ++ b) (a' ++ b')
  | _, _, _, _, .nil, h => h
  | _, _, _, _, .cons h t, k => .cons h (VRs.append t k)
theorem VRs.take {r : Ren} {l : List V} {l' : List Value} (h : VRs r l l') (n : Nat) : VRs r (l.take n) (l'.take n) :=
  VRs.of_get (by simp [h.length]) fun i v hv => by
    rw [List.getElem?_take] at hv ⊢
    split at hv
    · rename_i hi; rw [if_pos hi]; exact h.get hv
    · cases hv
theorem VRs.drop {r : Ren} {l : List V} {l' : List Value} (h : VRs r l l') (n : Nat) : VRs r (l.drop n) (l'.drop n) :=
  VRs.of_get (by simp [h.length]) fun i v hv => by
    rw [List.getElem?_drop] at hv ⊢
    exact h.get hv
theorem VRs.replicate {r : Ren} {v : V} {v' : Value} (h : VR r v v') (n : Nat) : VRs r (List.replicate n v) (List.replicate n v') := by
  induction n with
  | zero => exact .nil
  | succ n ih => exact .cons h ih
theorem VRs.rep {r : Ren} {l : List V} {l' : List Value} (h : VRs r l l') (n : Nat) : VRs r (rep n l) (Am.rep n l') := by
  induction n with
  | zero => exact .nil
  | succ n ih => exact h.append ih

theorem VR.cells {r : Ren} {v : V} {v' : Value} (h : VR r v v') (ht : v ≠ .top) : VRs r v.cells v'.cells.toList := by
  cases h with
  | agg h => exact h
  | top => exact absurd rfl ht
  | any _ h =>
    have hc : v'.cells = #[v'] := by cases v' <;> first | rfl | (simp [Value.oneCell'] at h)
    rw [hc]; exact .cons (.any v' h) .nil
  | bool b => exact .cons (.bool b) .nil
  | int k n => exact .cons (.int k n) .nil
  | str s => exact .cons (.str s) .nil
  | nilp => exact .cons .nilp .nil
  | ptr h => exact .cons (.ptr h) .nil
  | nils => exact .cons .nils .nil
  | sl h => exact .cons (.sl h) .nil
  | slo c h hc => exact .cons (.slo c h hc) .nil
  | sl0 a c => exact .cons (.sl0 a c) .nil
  | nilm => exact .cons .nilm .nil
  | map h => exact .cons (.map h) .nil
  | func ha hb => exact .cons (.func ha hb) .nil
  | yield h => exact .cons (.yield h) .nil
  | nilf => exact .cons .nilf .nil
  | iface h => exact .cons (.iface h) .nil
  | nili => exact .cons .nili .nil
  | tup h => exact .cons (.tup h) .nil
theorem VR.plain {r : Ren} {v : V} {v' : Value} (h : VR r v v') (hp : plainV v = true) : v'.oneCell' = true := by
  cases h <;> first | rfl | (simp [plainV] at hp; done) | assumption
theorem VRs.plains {r : Ren} : ∀ {l : List V} {l' : List Value}, VRs r l l' → plains l = true → ∀ v ∈ l', v.oneCell' = true
  | _, _, .nil, _, v, h => by simp at h
  | _, _, .cons (v := x) (l := l) hv t, hp, v, h => by
    have hx : plainV x = true := by
      simp only [Am.plains] at hp; cases hh : plainV x with
      | true => rfl
      | false => rw [hh] at hp; cases hp
    have ht : Am.plains l = true := by simp only [Am.plains, hx] at hp; exact hp
    rcases List.mem_cons.1 h with rfl | h
    · exact hv.plain hx
    · exact VRs.plains t ht v h

/-! ### Objects -/
def FzR (lo hi : Nat) (loc : Loc) : Fz → Prop
  | .no => lo = 0 ∧ hi = 0
  | .pre z => hi ≤ loc.off + z
  | .tail => ∀ i, i < loc.lim → ¬ (lo ≤ loc.off + i ∧ loc.off + i < hi)
def CellsR (r : Ren) (off n : Nat) (vs : T V) (c : Array Value) : Prop :=
  ∀ i v, vs.get i = some v → i < n ∧ ∃ v', c[off + i]? = some v' ∧ VR r v v'
inductive EntsR (r : Ren) : List (V × V × Nat) → List MapEntry → Prop
  | nil : EntsR r [] []
  | cons {k v : V} {e : MapEntry} {l : List (V × V × Nat)} {l' : List MapEntry} (hk : VR r k e.key) (hv : VR r v e.val) (t : EntsR r l l') : EntsR r ((k, v, e.born) :: l) (e :: l')
theorem EntsR.mono {r r' : Ren} (hr : r.le r') : ∀ {l : List (V × V × Nat)} {l' : List MapEntry}, EntsR r l l' → EntsR r' l l'
  | _, _, .nil => .nil
  | _, _, .cons hk hv t => .cons (hk.mono hr) (hv.mono hr) (EntsR.mono hr t)
noncomputable def opdAt (env : T V) (t : Nat) : V := (env.get t).getD undef
def EnvR (r : Ren) (env : T V) (tmps : Array Value) : Prop := ∀ t, VR r (opdAt env t) (tmps.getD t Go.undef)
theorem EnvR.mono {r r' : Ren} (hr : r.le r') {env : T V} {tmps : Array Value} (h : EnvR r env tmps) : EnvR r' env tmps := fun t => (h t).mono hr

/-- All temporaries that are written lie below n, all package variables that are named below g. -/
def glOk (g : Nat) : List Operand → Bool
  | [] => true
  | x :: r => match x with
    | .global k => Nat.blt k g && glOk g r
    | _ => glOk g r
def opsOk (g n : Nat) : List Oper → Bool
  | [] => true
  | o :: r => match o.dst with
    | none => glOk g o.op.operands.toList && opsOk g n r
    | some d => Nat.blt d n && (glOk g o.op.operands.toList && opsOk g n r)
def codeOk (g n : Nat) : Code → Bool
  | .region _ ops _ => opsOk g n ops.toList
  | .seq a b => codeOk g n a && codeOk g n b
  | .cond c a b => glOk g [c] && (codeOk g n a && codeOk g n b)
  | .block _ a => codeOk g n a
  | .loop a => codeOk g n a
  | .scope a => codeOk g n a
  | .rangeFunc f ps a b => glOk g [f] && ((ps.toList.all fun t => Nat.blt t n) && (codeOk g n a && codeOk g n b))
  | _ => true

def ObjR (P : Program) (r : Ren) (loc : Loc) : Obj → Go.Obj → Prop
  | .cells vs n elem frz opn, m => ∃ c lo hi, m = .cells c elem (lo, hi) ∧ CellsR r loc.off n vs c ∧ n ≤ loc.lim ∧ c.size = loc.off + loc.lim ∧
      (opn = false → loc.off = 0 ∧ loc.lim = n) ∧ FzR lo hi loc frz ∧ (opn = true → ∃ i, P.info? elem = some i ∧ i.size = loc.esz)
  | .glob vs elem, m => ∃ c fr n, m = .cells c elem fr ∧ CellsR r loc.off n vs c
  | .mapo es clock, m => ∃ en, m = .map en clock ∧ EntsR r es en.toList
  | .strI s pos, m => ∃ bs : ByteArray, m = .stringIter bs pos ∧ s = (bs.data.toList.map UInt8.toNat).drop pos ∧ loc.off = 0
  | .mapI mp since seen last, m => ∃ mm, m = .mapIter mm since seen.toArray last ∧ loc.off = 0 ∧ (match mp with
      | none => mm = none
      | some l => ∃ loc', r l = some loc' ∧ mm = some loc'.blk)
  | .loop env ps a b st pend dl, m => ∃ L : Loop, m = .loop L ∧ L.state = st ∧ L.pending = pend ∧ L.params = ps.toArray ∧ L.assign = a ∧ L.body = b ∧
      (∃ loc', r dl = some loc' ∧ L.defers = loc'.blk) ∧ EnvR r env L.tmps ∧ codeOk P.globals.size L.tmps.size a = true ∧ codeOk P.globals.size L.tmps.size b = true ∧ (∀ t ∈ ps, t < L.tmps.size)
  | .defd o, m => m = .deferred (if o then some [] else none)
theorem CellsR.mono {r r' : Ren} (hr : r.le r') {off n : Nat} {vs : T V} {c : Array Value} (h : CellsR r off n vs c) : CellsR r' off n vs c :=
  fun i v hv => let ⟨a, v', b, d⟩ := h i v hv; ⟨a, v', b, d.mono hr⟩
theorem ObjR.mono {P : Program} {r r' : Ren} (hr : r.le r') {loc : Loc} {o : Obj} {m : Go.Obj} (h : ObjR P r loc o m) : ObjR P r' loc o m := by
  cases o with
  | cells vs n elem frz opn => obtain ⟨c, lo, hi, h1, h2, h3⟩ := h; exact ⟨c, lo, hi, h1, h2.mono hr, h3⟩
  | glob vs elem => obtain ⟨c, fr, n, h1, h2⟩ := h; exact ⟨c, fr, n, h1, h2.mono hr⟩
  | mapo es clock => obtain ⟨en, h1, h2⟩ := h; exact ⟨en, h1, h2.mono hr⟩
  | strI s pos => exact h
  | mapI mp since seen last =>
    obtain ⟨mm, h1, h0, h2⟩ := h
    refine ⟨mm, h1, h0, ?_⟩
    cases mp with
    | none => exact h2
    | some l => obtain ⟨loc', a, b⟩ := h2; exact ⟨loc', hr _ _ a, b⟩
  | loop env ps a b st pend dl =>
    obtain ⟨L, h1, h2, h3, h4, h5, h6, ⟨loc', h7, h8⟩, h9, h10⟩ := h
    exact ⟨L, h1, h2, h3, h4, h5, h6, ⟨loc', hr _ _ h7, h8⟩, h9.mono hr, h10⟩
  | defd o => exact h

structure Sim (P : Program) (r : Ren) (h : H) (w : World) : Prop where
  obj : ∀ l o, h.get l = some o → l < h.nx ∧ ∃ loc m, r l = some loc ∧ w.heap[loc.blk]? = some m ∧ ObjR P r loc o m
  inj : ∀ l l' loc loc', h.get l ≠ none → h.get l' ≠ none → r l = some loc → r l' = some loc' → loc.blk = loc'.blk → l = l'
  fresh : ∀ l, h.nx ≤ l → r l = none
  gn : P.globals.size ≤ h.nx
  gl : ∀ g, g < P.globals.size → ∃ loc, r g = some loc ∧ loc.blk = g ∧ loc.off = 0
/-- No object lies in a block. -/
def unowned (r : Ren) (h : H) (b : Nat) : Prop := ∀ l loc, h.get l ≠ none → r l = some loc → loc.blk ≠ b
/-- What a step of the machine says of the model's step. -/
structure Step (P : Program) (r : Ren) (h : H) (w : World) (r' : Ren) (h' : H) (w' : World) : Prop where
  ext : ∀ l, l < h.nx → r' l = r l
  nx : h.nx ≤ h'.nx
  sim : Sim P r' h' w'
  size : w.heap.size ≤ w'.heap.size
  kept : ∀ b, b < w.heap.size → unowned r h b → w'.heap[b]? = w.heap[b]? ∧ unowned r' h' b
  glob : ∀ l vs e loc, h.get l = some (.glob vs e) → r l = some loc → h'.get l = some (.glob vs e) ∧ r' l = some loc ∧ w'.heap[loc.blk]? = w.heap[loc.blk]?
  os : w'.os = w.os
  tape : w'.tape = w.tape
  output : w'.output = w.output
theorem Step.le {P : Program} {r r' : Ren} {h h' : H} {w w' : World} (s : Step P r h w r' h' w') (hs : Sim P r h w) : r.le r' := fun l loc e => by
  by_cases hl : l < h.nx
  · rw [s.ext l hl]; exact e
  · rw [hs.fresh l (by omega)] at e; cases e
theorem Step.refl {P : Program} {r : Ren} {h : H} {w : World} (hs : Sim P r h w) : Step P r h w r h w :=
  ⟨fun _ _ => rfl, Nat.le_refl _, hs, Nat.le_refl _, fun _ _ hu => ⟨rfl, hu⟩, fun _ _ _ _ hl hr => ⟨hl, hr, rfl⟩, rfl, rfl, rfl⟩
theorem Step.trans {P : Program} {r r' r'' : Ren} {h h' h'' : H} {w w' w'' : World} (a : Step P r h w r' h' w') (b : Step P r' h' w' r'' h'' w'') : Step P r h w r'' h'' w'' := by
  refine ⟨fun l hl => ?_, Nat.le_trans a.nx b.nx, b.sim, Nat.le_trans a.size b.size, fun k hk hu => ?_, fun l vs e loc hl hr => ?_, b.os.trans a.os, b.tape.trans a.tape, b.output.trans a.output⟩
  · rw [b.ext l (Nat.lt_of_lt_of_le hl a.nx), a.ext l hl]
  · obtain ⟨h1, h2⟩ := a.kept k hk hu
    obtain ⟨h3, h4⟩ := b.kept k (Nat.lt_of_lt_of_le hk a.size) h2
    exact ⟨h3.trans h1, h4⟩
  · obtain ⟨h1, h2, h3⟩ := a.glob l vs e loc hl hr
    obtain ⟨h4, h5, h6⟩ := b.glob l vs e loc h1 h2
    exact ⟨h4, h5, h6.trans h3⟩
end Go.Am
