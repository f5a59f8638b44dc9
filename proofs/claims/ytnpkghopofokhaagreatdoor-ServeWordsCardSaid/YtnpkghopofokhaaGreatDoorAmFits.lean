/- A part of the abstract machine, or of a proof over it. -/
import Derived.Test.YtnpkghopofokhaaGreatDoorAmOrc
namespace Go.Am
variable {p : Pg} {P : Program} {r : Ren} {h : H} {w : World}

/-! ### The machine's tables, by check -/
noncomputable def T.ofL {α : Type} : List (Nat × α) → T α → T α
  | [], t => t
  | (k, x) :: l, t => T.ofL l (t.putK k (some x) id)
noncomputable def mkT {α : Type} (l : List (Nat × α)) : T α := T.ofL l .lf
theorem ofL_mem {α : Type} : ∀ (l : List (Nat × α)) (t : T α) (k : Nat) (x : α), (T.ofL l t).get k = some x → (k, x) ∈ l ∨ t.get k = some x
  | [], _, _, _, h => .inr h
  | (j, y) :: l, t, k, x, h => by
    rcases ofL_mem l _ k x h with h | h
    · exact .inl (by simp [h])
    · have h2 : (t.put j (some y)).get k = some x := h
      rw [T.get_put] at h2
      by_cases hk : k = j
      · rw [if_pos hk] at h2; cases h2; subst hk; exact .inl (by simp)
      · rw [if_neg hk] at h2; exact .inr h2
theorem mkT_mem {α : Type} {l : List (Nat × α)} {k : Nat} {x : α} (h : (mkT l).get k = some x) : (k, x) ∈ l := by
  rcases ofL_mem l _ k x h with h | h
  · exact h
  · rw [T.get_lf] at h; cases h
def fnB (G : Nat) (g : Func) : Bool := g.name != "runtime.NumGoroutine" && (match g.body with
  | some c => codeOk G g.ntmps c
  | none => (Extern.findNext g).isNone)
def fieldsB : List Field → Nat → Bool
  | [], _ => true
  | f :: fs, i => f.name != "_" && (f.offset == i && fieldsB fs (i + 1))
def cmpB (P : Program) (t : Nat) : Bool := !P.stoodInHeld t && (match P.underlying t with
  | some (.struct fs) => fieldsB fs.toList 0
  | _ => false)
theorem fieldsB_spec : ∀ (l : List Field) (i : Nat), fieldsB l i = true → ∀ (k : Nat) (f : Field), l[k]? = some f → f.name ≠ "_" ∧ f.offset = i + k
  | [], _, _, k, f, h => by simp at h
  | a :: l, i, e, k, f, h => by
    simp only [fieldsB, Bool.and_eq_true, bne_iff_ne, ne_eq, beq_iff_eq] at e
    cases k with
    | zero => simp only [List.getElem?_cons_zero, Option.some.injEq] at h; subst h; exact ⟨e.1, e.2.1⟩
    | succ k =>
      rw [List.getElem?_cons_succ] at h
      obtain ⟨h1, h2⟩ := fieldsB_spec l (i + 1) e.2.2 k f h
      exact ⟨h1, by omega⟩
theorem fits_of {fnL : List (Nat × Func)} {tyT : T TypeInfo} {cmp : List Nat} {lies : List (Nat × Nat × Nat)} (hty : tyT = T.lf.puts 0 P.types.toList) (hfn : fnL.map (fun x => P.funcs[x.1]?) = fnL.map fun x => some x.2) (hb : (fnL.all fun x => fnB P.globals.size x.2) = true)
    (hc : (cmp.all fun t => cmpB P t) = true) (hl : (lies.all fun x => liesAt P P.depth x.1 1 x.2.1 x.2.2 1) = true) (hm : P.follows .mixedOrders = true) : Fits ⟨tyT, mkT fnL, cmp, lies⟩ P := by
  have key : ∀ f g, (mkT fnL).get f = some g → P.funcs[f]? = some g ∧ fnB P.globals.size g = true := fun f g hg => by
    have hmem := mkT_mem hg
    refine ⟨?_, List.all_eq_true.1 hb _ hmem⟩
    have := List.map_inj_left.1 hfn (f, g) hmem
    exact this
  refine ⟨fun t i hi => ?_, fun f g hg => ?_, fun t ht => ?_, fun e o u hx => List.all_eq_true.1 hl (e, o, u) hx, fun f g hg hbn => ?_, hm⟩
  · have hinfo : ∀ i, P.types[t]? = some i → P.info? t = some i := fun i h => by unfold Tables.info?; rw [if_pos (Array.getElem?_eq_some_iff.1 h).1, h]
    have hi' : tyT.get t = some i := hi
    rw [hty, T.get_puts] at hi'
    split at hi'
    · exact hinfo i (by simpa using hi')
    · rw [T.get_lf] at hi'; cases hi'
  · obtain ⟨h1, h2⟩ := key f g hg
    simp only [fnB, Bool.and_eq_true, bne_iff_ne, ne_eq] at h2
    refine ⟨h1, h2.1, fun c hc' => ?_⟩
    have := h2.2
    rw [hc'] at this; exact this
  · have := List.all_eq_true.1 hc t ht
    simp only [cmpB, Bool.and_eq_true, Bool.not_eq_true'] at this
    refine ⟨this.1, ?_⟩
    have h2 := this.2
    split at h2
    · rename_i fs hu
      refine ⟨fs, hu, fun i f hf => ?_⟩
      have := fieldsB_spec fs.toList 0 h2 i f (by rw [Array.getElem?_toList]; exact hf)
      rw [Nat.zero_add] at this; exact this
    · cases h2
  · obtain ⟨h1, h2⟩ := key f g hg
    simp only [fnB, Bool.and_eq_true] at h2
    have := h2.2
    rw [hbn] at this; exact this
/-! ### Entries -/
def EsOk (P : Program) (es : List Ent) : Prop := ∀ e ∈ es, EntOk P e
theorem EsOk.nil : EsOk P [] := fun _ h => by cases h
theorem EsOk.cons {e : Ent} {es : List Ent} (h : EntOk P e) (t : EsOk P es) : EsOk P (e :: es) := fun x hx => by
  rcases List.mem_cons.1 hx with rfl | hx
  · exact h
  · exact t x hx
end Go.Am
