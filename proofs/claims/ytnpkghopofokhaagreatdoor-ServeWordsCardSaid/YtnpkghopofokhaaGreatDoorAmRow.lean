/- A part of the abstract machine, or of a proof over it. -/
import Derived.Test.YtnpkghopofokhaaGreatDoorAmFits
import Derived.Carry
import Derived.ProofKit
import Derived.WalkKit
import Derived.OpenShut
import Derived.Deep.DeepHandedRow
import Derived.Deep.Strs
import Derived.Lay
import Derived.LaidSub
namespace Go.Am
open Go.ChangeShapes Go.WideShapes Go.ChangeAt Go.RowKit
variable {p : Pg} {P : Program} {r : Ren} {h : H} {w : World}

/-! ### From the machine to a row's contract -/
/-- Over a heap of cells that are only read nothing that was there has turned. -/
theorem below_of_step {r' : Ren} {h' : H} {w' : World} (hall : ∀ l o, h.get l = some o → ∃ vs e, o = .glob vs e) (st : Step P r h w r' h' w') : Below w.heap.size w w' := by
  refine ⟨st.os, st.tape, st.output, st.size, fun k hk => ?_⟩
  by_cases hx : ∃ l loc, h.get l ≠ none ∧ r l = some loc ∧ loc.blk = k
  · obtain ⟨l, loc, h1, h2, rfl⟩ := hx
    cases e : h.get l with
    | none => exact absurd e h1
    | some o =>
      obtain ⟨vs, el, rfl⟩ := hall l o e
      exact (st.glob l vs el loc e h2).2.2
  · exact (st.kept k hk fun l loc h1 h2 h3 => hx ⟨l, loc, h1, h2, h3⟩).1
theorem globs_outT {a o : T Obj} {nx nx' : Nat} {r' : Ren} {w' : World} (hall : ∀ l o, a.get l = some o → ∃ vs e, o = .glob vs e) (st : Step P r ⟨a, nx⟩ w r' ⟨outT a o, nx'⟩ w') : Below w.heap.size w w' :=
  below_of_step (h := ⟨a, nx⟩) hall st
/-- An entry, as a contract of the model. -/
theorem EntOk.calls {e : Ent} (he : EntOk P e) {g : Func} (Fi : Fits p P) (hg : p.fn.get e.f = some g) (hb : g.body.isSome = true) (hall : ∀ l o, e.part.get l = some o → ∃ vs el, o = .glob vs el) {args' : Array Value} (ha : VRs r e.args args'.toList) (hs : Sim P r ⟨e.part, e.nx⟩ w) :
    Calls P e.f args' w fun en w' => ∃ v', en = .returned v' ∧ (∃ r', VR r' e.v v') ∧ Below w.heap.size w w' := by
  have hgo := he r w args' ha hs
  rw [callFunc_enter Fi hg hb] at hgo
  refine (callsIn_wide.1 (hgo 0)).mono ?_
  rintro en w' ⟨v', rfl, r', st, hv⟩
  exact ⟨v', rfl, ⟨r', hv⟩, globs_outT hall st⟩
theorem trodAll_stays {H : Type} {enc : TypeId × Value → H} {W W' : World} {sp : Nat → Bool} (hl : laidOutB P = true) (hb : Below W.heap.size W W') : ∀ {ts : List TypeId} {vs : List Value} {ds : List (DataW H)} {ps : List MemPlace},
    (∀ t ∈ ts, P.readableRec t = true ∧ t < P.types.size) → DataW.TrodAll enc P W 0 (fun _ => true) true ts vs ds ps → (∀ x ∈ ps, x.block < W.heap.size) → (∀ x ∈ ps, sp x.block = true) → DataW.TrodAll enc P W' 0 sp true ts vs ds ps
  | [], [], [], _, _, h, _, _ => h
  | t :: ts, v :: vs, d :: ds, ps, ht, h, hlt, hsp => by
    obtain ⟨p1, q, h1, h2, rfl⟩ := h
    refine ⟨p1, q, WideElems.Trod_stays hl (ht t (by simp)).1 (ht t (by simp)).2 h1 (fun x hx => hb.same (hlt x (by simp [hx]))) (fun x hx => hsp x (by simp [hx])), trodAll_stays hl hb (fun t' h' => ht t' (by simp [h'])) h2 (fun x hx => hlt x (by simp [hx])) (fun x hx => hsp x (by simp [hx])), rfl⟩
  | [], [], _ :: _, _, _, h, _, _ => h.elim
  | [], _ :: _, _, _, _, h, _, _ => h.elim
  | _ :: _, [], _, _, _, h, _, _ => h.elim
  | _ :: _, _ :: _, [], _, _, h, _, _ => h.elim
/-- What a law's row asks behind the call: true, and each argument reads as it did. -/
theorem law_post {H : Type} {enc : TypeId × Value → H} {f : Func} {s : ChangeSpec} {W W' : World} {args : Array Value} {ds gs : List (DataW H)} {before : List MemPlace} {tb : TypeId} (hW : DataW.Whole enc P f.params.toList s.vars false W args.toList ds gs before) (hvars : s.vars = [])
    (hl : laidOutB P = true) (hps : ∀ t ∈ f.params.toList, P.readableRec t = true ∧ t < P.types.size) (hb : Below W.heap.size W W') (hres : f.resultTypes = #[tb]) (htb : P.underlying tb = some .bool)
    (hfn : s.fn H (ds ++ gs) = { results := [.lit (.bool true)], args := ds }) : s.post enc P f false true false false W args (.bool true) W' := by
  have hlt := fun x hx => hW.lt x hx
  obtain ⟨p1, q, hA, hV, rfl, hz, hn⟩ := hW
  have hW2 : DataW.Whole enc P f.params.toList s.vars false W args.toList ds gs (p1 ++ q) := ⟨p1, q, hA, hV, rfl, hz, hn⟩
  rw [hvars] at hV
  obtain ⟨rfl, rfl⟩ := trodVars_none hV
  refine ⟨ds, [], p1 ++ [], [], p1, [], hW2, ?_, ?_, ?_, hb.frame _, fun hh => by cases hh⟩
  · rw [hfn, hres]
    exact ⟨[], [], shut_bool htb true, trodAll_mk0, rfl⟩
  · rw [hfn]
    exact trodAll_stays hl hb hps hA (fun x hx => hlt x (by simp [hx])) (fun x hx => by simpa using hlt x (by simp [hx]))
  · rw [hfn, hvars]; rfl
/-- A listed variable that holds an error holds an interface value. -/
theorem laid_iface {W : World} {laid : List (String × DataW Unit)} {name T : String} {d : DataW Unit} {g t : Nat} {ms : Array (String × TypeId)} (h : laidMetH P laid W) (hf : laid.filter (fun x => x.1 == name) = [(name, .iface T d)]) (hnh : (DataW.iface T d).handleName? = none)
    (hg : P.globalNamed name = some g) (ht : (P.globals[g]?).map (·.type) = some t) (hu : P.underlying t = some (.interface ms)) : ∃ c e fr u v, W.heap[g]? = some (.cells c e fr) ∧ c[0]? = some (.iface u v) := by
  have h1 := h.filter (fun x => x.1 == name)
  rw [hf] at h1
  have h2 : laidMet P [(name, .iface T d)] W := by
    obtain ⟨a, -⟩ := laidMetH_iff.1 h1
    have : ([(name, DataW.iface T d)].filter fun x => x.2.handleName?.isNone) = [(name, .iface T d)] := by simp [hnh]
    rw [this] at a; exact a
  obtain ⟨ps, ⟨g', t', cs, fuel, p1, q, hg', ht', hvar, hd, _, hps⟩, _, hrow⟩ := h2
  obtain rfl := Option.some.inj (hg.symm.trans hg')
  obtain rfl := Option.some.inj (ht.symm.trans ht')
  unfold World.var? at hvar
  rw [hg] at hvar
  simp only [Option.bind_some] at hvar
  split at hvar
  · rename_i cs' e fr hheap
    simp only [Option.some.injEq] at hvar; subst hvar
    have hu2 : ∃ u v, cs'.toList = [.iface u v] := by
      cases fuel with
      | zero => simp [DataW.trod] at hd
      | succ n =>
        simp only [DataW.trod, hu] at hd
        split at hd <;> first | exact ⟨_, _, by assumption⟩ | (simp at hd; done) | (simp_all; done)
    obtain ⟨u, v, huv⟩ := hu2
    refine ⟨cs', e, fr, u, v, hheap, ?_⟩
    rw [← Array.getElem?_toList, huv]; rfl
  · cases hvar
/-- A slice of strings that came in, as cells that are only read. -/
theorem glob_of_cells {blk off n esz lim : Nat} {c : Array Value} {e : TypeId} {fr : Nat × Nat} (_hb : w.heap[blk]? = some (.cells c e fr)) (hc : ∀ i, i < n → ∃ v, c[off + i]? = some v ∧ v.oneCell' = true) :
    ObjR P r ⟨blk, off, lim, esz⟩ (.glob (T.lf.puts 0 (List.replicate n .any)) e) (.cells c e fr) := by
  refine ⟨c, fr, n, rfl, fun i v hv => ?_⟩
  rw [T.get_puts] at hv
  split at hv
  · rename_i hi
    rw [List.length_replicate] at hi
    rw [List.getElem?_replicate] at hv
    split at hv
    · cases hv
      obtain ⟨v', h1, h2⟩ := hc i (by omega)
      exact ⟨by omega, v', h1, .any v' h2⟩
    · cases hv
  · rw [T.get_lf] at hv; cases hv
theorem simOf {l : List (Nat × Obj)} {nx : Nat} (hobj : ∀ x ∈ l, x.1 < nx ∧ ∃ loc m, r x.1 = some loc ∧ w.heap[loc.blk]? = some m ∧ ObjR P r loc x.2 m) (hinj : ∀ x ∈ l, ∀ y ∈ l, ∀ lx ly, r x.1 = some lx → r y.1 = some ly → lx.blk = ly.blk → x.1 = y.1)
    (hfresh : ∀ k, nx ≤ k → r k = none) (hgn : P.globals.size ≤ nx) (hgl : ∀ g, g < P.globals.size → ∃ loc, r g = some loc ∧ loc.blk = g ∧ loc.off = 0) : Sim P r ⟨mkT l, nx⟩ w := by
  have live : ∀ k, (⟨mkT l, nx⟩ : H).get k ≠ none → ∃ o, (k, o) ∈ l := fun k hk => by
    cases e : (mkT l).get k with
    | none => exact absurd e hk
    | some o => exact ⟨o, mkT_mem e⟩
  refine ⟨fun k o hk => hobj (k, o) (mkT_mem hk), fun a b la lb ha hb ra rb e => ?_, hfresh, hgn, hgl⟩
  obtain ⟨oa, h1⟩ := live a ha
  obtain ⟨ob, h2⟩ := live b hb
  exact hinj _ h1 _ h2 la lb ra rb e
/-- The names of a law's run: the package variables, and one block that came in. -/
def ren1 (g : Nat) (x : Loc) : Ren := fun l => if l < g then some ⟨l, 0, 0, 0⟩ else if l = g then some x else none
theorem ren1_lt {g : Nat} {x : Loc} {l : Nat} (h : l < g) : ren1 g x l = some ⟨l, 0, 0, 0⟩ := by simp [ren1, h]
theorem ren1_at {g : Nat} {x : Loc} : ren1 g x g = some x := by simp [ren1]
theorem ren1_gt {g : Nat} {x : Loc} {l : Nat} (h : g < l) : ren1 g x l = none := by
  have h1 : ¬ l < g := by omega
  have h2 : ¬ l = g := by omega
  simp [ren1, h1, h2]
end Go.Am
