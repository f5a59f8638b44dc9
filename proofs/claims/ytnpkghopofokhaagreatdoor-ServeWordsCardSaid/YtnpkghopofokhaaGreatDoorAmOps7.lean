/- A part of the abstract machine, or of a proof over it. -/
import Derived.Test.YtnpkghopofokhaaGreatDoorAmOps6
namespace Go.Am
variable {p : Pg} {P : Program} {r : Ren} {h : H} {w : World}

/-! ### New variables, rows -/
/-- A new row whose cells are all known. -/
theorem Sim.row0 (hs : Sim P r h w) {elem : Nat} {cs : List V} {cs' : List Value} (hc : VRs r cs cs') :
    Step P r h w (r.at h.nx ⟨w.heap.size, 0, cs'.length, 0⟩) (h.newD (.cells (T.lf.puts 0 cs) cs.length elem .no false)) { w with heap := w.heap.push (.cells cs'.toArray elem) } := by
  have := Sim.row (P := P) (r := r) (h := h) (w := w) hs (elem := elem) (cs := cs) (cs' := cs') (rest := []) (opn := false) (frz := .no) (lo := 0) (hi := 0) (esz := 0) hc (fun _ => rfl) ⟨rfl, rfl⟩ (fun hh => by cases hh)
    (w' := { w with heap := w.heap.push (.cells cs'.toArray elem) }) (by simp) rfl rfl rfl
  simpa using this
theorem newRow_does (hs : Sim P r h w) {elem : Nat} {cs : List V} {cs' : List Value} (hc : VRs r cs cs') (k : Addr → Value) (kv : V)
    (hk : VR (r.at h.nx ⟨w.heap.size, 0, cs'.length, 0⟩) kv (k ⟨w.heap.size, 0, none⟩)) :
    Does P r h w (do pure (k (← Go.newRow elem cs'.toArray))) kv (h.newD (.cells (T.lf.puts 0 cs) cs.length elem .no false)) :=
  ⟨_, _, _, by simp only [Go.newRow, Sem.run_bind, run_newObj, Result.andThen_ok, Sem.run_pure], hs.row0 hc, hk⟩
theorem alloc_sound (F : Fits p P) (hs : Sim P r h w) {t : Nat} {z : V} (hz : zeroOf p t = some z) :
    Does P r h w (Instr.alloc t true (.tuple #[])) (.ptr h.nx 0) (h.newD (.cells (T.lf.puts 0 z.cells) z.cells.length t .no false)) := by
  obtain ⟨i, z', hi, hiz, hzr, hnt⟩ := zeroOf_sound F r hz
  have hzc := hzr.cells hnt
  obtain ⟨v', w', r', k1, k2, k3⟩ := newRow_does (P := P) hs (elem := t) hzc (fun a => .pointer (some a)) (.ptr h.nx 0) (by have := VR.ptr (r := r.at h.nx ⟨w.heap.size, 0, z'.cells.toList.length, 0⟩) (l := h.nx) (o := 0) (Ren.at_same _ _ _); exact this)
  refine ⟨v', w', r', ?_, k2, k3⟩
  rw [← k1]
  simp [Instr.alloc, run_zero hi hiz, newVar]
theorem box_sound (hs : Sim P r h w) {t : Nat} {v : V} {v0 : Value} (hv : VR r v v0) (hnt : v ≠ .top) :
    Does P r h w (Instr.box t v0) (.ptr h.nx 0) (h.newD (.cells (T.lf.puts 0 v.cells) v.cells.length t .no false)) := by
  obtain ⟨v', w', r', k1, k2, k3⟩ := newRow_does (P := P) hs (elem := t) (hv.cells hnt) (fun a => .pointer (some a)) (.ptr h.nx 0) (by have := VR.ptr (r := r.at h.nx ⟨w.heap.size, 0, v0.cells.toList.length, 0⟩) (l := h.nx) (o := 0) (Ren.at_same _ _ _); exact this)
  refine ⟨v', w', r', ?_, k2, k3⟩
  rw [← k1]
  simp [Instr.box, newVar]
theorem range_zero (n : Nat) (zero : Array Value) : (Array.range (n * zero.size)).map (fun i => zero[i % zero.size]!) = (rep n zero.toList).toArray := by
  apply Array.ext'
  apply List.ext_getElem?
  intro i
  rw [Array.toList_map, List.getElem?_map, Array.toList_range]
  by_cases hi : i < n * zero.size
  · rw [List.getElem?_range hi, Option.map_some]
    rw [List.toList_toArray, rep_get n zero.toList i (by simpa using hi), Array.length_toList, Array.getElem?_toList]
    have hz : 0 < zero.size := by
      rcases Nat.eq_zero_or_pos zero.size with h0 | h0
      · rw [h0] at hi; omega
      · exact h0
    have hm : i % zero.size < zero.size := Nat.mod_lt _ hz
    rw [Array.getElem?_eq_getElem hm, getElem!_pos zero _ hm]
  · rw [List.getElem?_eq_none (by simpa using hi), List.toList_toArray, List.getElem?_eq_none (by rw [rep_length, Array.length_toList]; omega)]; rfl
theorem rep_nil_of {n s : Nat} {l : List Value} (h : n * s = 0) (hl : l.length = s) : rep n l = [] := by
  apply List.length_eq_zero_iff.1; rw [rep_length, hl]; exact h
/-- The zero cells that a make lays. -/
theorem zero_cells (F : Fits p P) {e n : Nat} {z : V} (hz : zeroOf p e = some z) {i : TypeInfo} (hi : P.info? e = some i) (hlen : z.cells.length = i.size) :
    ∃ z' : Value, i.zero = some z' ∧ VRs r z.cells z'.cells.toList ∧ z'.cells.size = i.size ∧
      (n * i.size = 0 → (rep n z'.cells.toList) = []) ∧
      (Array.range (n * i.size)).map (fun j => z'.cells[j % z'.cells.size]!) = (rep n z'.cells.toList).toArray := by
  obtain ⟨i', z', hi', hiz, hzr, hnt⟩ := zeroOf_sound F r hz
  rw [hi] at hi'; cases hi'
  have hzc := hzr.cells hnt
  have hsz : z'.cells.size = i.size := by rw [← hlen, hzc.length, Array.length_toList]
  refine ⟨z', hiz, hzc, hsz, fun h0 => rep_nil_of h0 (by rw [Array.length_toList, hsz]), ?_⟩
  rw [← hsz, range_zero]
theorem buildSlice_sound (F : Fits p P) (hs : Sim P r h w) {t e n s : Nat} {z : V} {ps : List (Nat × V)} {ps' : Array (Nat × Value)} {out : List V} (hp : PartsR r ps ps'.toList) (hu : und p t = some (.slice e))
    (hsz : szOf p e = some s) (hz : zeroOf p e = some z) (hle : n * s ≤ 16777216) (hlen : z.cells.length = s) (hf : fillAll (fun i => some (Nat.mul i s, s)) (rep n z.cells) ps = some out) :
    Does P r h w (Instr.buildSlice t n ps') (.sl h.nx 0 n (some n)) (h.newD (.cells (T.lf.puts 0 out) out.length e .no false)) := by
  obtain ⟨i, hi, hiz⟩ := szOf_sound F hsz
  subst hiz
  obtain ⟨z', k1, k2, k3, k4, k5⟩ := zero_cells (r := r) (n := n) F hz hi hlen
  obtain ⟨out', k6, k7⟩ := fillAll_sound (place' := fun j => some (j * i.size, i.size)) (fun j x hx => hx) hp (cells' := (rep n z'.cells.toList).toArray) (by simpa using k2.rep n) hf
  obtain ⟨v', w', r', k8, k9, k10⟩ := newRow_does (P := P) hs (elem := e) k7 (fun a => .slice (some a) n n) (.sl h.nx 0 n (some n))
    (by have := VR.sl (r := r.at h.nx ⟨w.heap.size, 0, out'.toList.length, 0⟩) (l := h.nx) (o := 0) (n := n) (c := n) (Ren.at_same _ _ _); exact this)
  refine ⟨v', w', r', ?_, k9, k10⟩
  rw [← k8]
  unfold Instr.buildSlice
  simp only [Sem.run_bind, run_und F hu, Result.andThen_ok, run_size hi, Sem.run_ite]
  rw [if_neg (by omega)]
  by_cases h0 : n * i.size = 0
  · rw [k4 h0] at k6
    have hr0 : ∀ f : Nat → Value, (Array.range 0).map f = ([] : List Value).toArray := fun f => Array.eq_empty_of_size_eq_zero (by rw [Array.size_map, Array.size_range])
    simp only [h0, if_true, Sem.run_pure, Result.andThen_ok, hr0, Sem.run_bind, k6, Array.toArray_toList]
  · rw [if_neg h0]
    simp only [Sem.run_bind, run_zero hi k1, Sem.run_pure, Result.andThen_ok, k5, k6, Array.toArray_toList]
theorem mkSl_sound (F : Fits p P) (hs : Sim P r h w) {t e n c : Nat} {k k' : IntKind} {v : V} {h' : H} (hu : und p t = some (.slice e)) (e0 : mkSl p e n c h = some (v, h')) :
    Does P r h w (Instr.makeSlice t (.int k n) (.int k' c)) v h' := by
  unfold mkSl at e0
  split at e0
  · rename_i i z hi hz
    split at e0
    · rename_i hc
      rw [newRow_eq] at e0
      simp only [Option.some.injEq, Prod.mk.injEq] at e0
      obtain ⟨rfl, rfl⟩ := e0
      simp only [ble_iff, beq_iff, len_eq, Bool.and_eq_true, decide_eq_true_eq] at hc
      obtain ⟨⟨⟨h1, h2⟩, h3⟩, h4⟩ := hc
      replace h3 : i.bytes * c ≤ 281474976710656 := h3
      have hI := F.ty e i hi
      obtain ⟨z', k1, k2, k3, k4, k5⟩ := zero_cells (r := r) (n := c) F hz hI h4
      have hrow := k2.rep c
      obtain ⟨v', w', r', k8, k9, k10⟩ := newRow_does (P := P) hs (elem := e) hrow (fun a => .slice (some a) n c) (.sl h.nx 0 n (some c))
        (by have := VR.sl (r := r.at h.nx ⟨w.heap.size, 0, (rep c z'.cells.toList).length, 0⟩) (l := h.nx) (o := 0) (n := n) (c := c) (Ren.at_same _ _ _); exact this)
      refine ⟨v', w', r', ?_, k9, k10⟩
      rw [← k8]
      have wn : IntKind.i64.wrap (n : Int) = n := by
        have : wrapS .i64 (Int.ofNat n) = IntKind.i64.wrap (Int.ofNat n) := wrapS_eq _ _
        rw [show (n : Int) = Int.ofNat n from rfl, ← this]
        simp only [wrapS, blt_iff, lim]
        rw [decide_eq_true (show n < 9223372036854775808 by omega)]
      have wc : IntKind.i64.wrap (c : Int) = c := by
        have : wrapS .i64 (Int.ofNat c) = IntKind.i64.wrap (Int.ofNat c) := wrapS_eq _ _
        rw [show (c : Int) = Int.ofNat c from rfl, ← this]
        simp only [wrapS, blt_iff, lim]
        rw [decide_eq_true (show c < 9223372036854775808 by omega)]
      have hb : ¬ ((i.bytes : Int) * (c : Int) > 2 ^ 48) := by
        rw [← Int.natCast_mul]
        omega
      have t1 : (decide ((c : Int) < 0) || decide ((i.bytes : Int) * (c : Int) > 2 ^ 48)) = false := by
        rw [decide_eq_false (by omega), decide_eq_false hb]; rfl
      have t2 : ((decide ((c : Int) < 0) || decide ((i.bytes : Int) * (c : Int) > 2 ^ 48)) || decide ((n : Int) < 0) || decide ((n : Int) > (c : Int))) = false := by
        rw [t1, decide_eq_false (show ¬ (n : Int) < 0 by omega), decide_eq_false (show ¬ (n : Int) > (c : Int) by omega)]; rfl
      unfold Instr.makeSlice
      simp only [Sem.run_bind, run_und F hu, Result.andThen_ok, asInt, asIntOf, Sem.run_pure, run_info hI, wn, wc, Sem.run_ite, t2, Bool.false_eq_true, if_false, run_askRoom, run_size hI, Int.toNat_natCast]
      by_cases h0 : c * i.size = 0
      · have hr0 : ∀ f : Nat → Value, (Array.range 0).map f = ([] : List Value).toArray := fun f => Array.eq_empty_of_size_eq_zero (by rw [Array.size_map, Array.size_range])
        simp only [h0, if_true, hr0, k4 h0]
      · simp only [h0, if_false, run_zero hI k1, Result.andThen_ok, k5]
    · cases e0
  · cases e0
theorem makeMap_sound (F : Fits p P) (hs : Sim P r h w) {t : Nat} {v : V} {h' : H} {rv : Option Value} (hrv : ∀ x, rv = some x → ∃ k n, x = .int k n) (e0 : mapR h (und p t) = some (v, h')) :
    Does P r h w (Instr.makeMap t rv) v h' := by
  cases hu : und p t with
  | none => rw [hu] at e0; cases e0
  | some u =>
    rw [hu] at e0
    cases u <;> simp only [mapR] at e0 <;> try (cases e0; done)
    rename_i kt et
    rw [H.new_eq] at e0
    simp only [Option.some.injEq, Prod.mk.injEq] at e0
    obtain ⟨rfl, rfl⟩ := e0
    have hst : Step P r h w (r.at h.nx ⟨w.heap.size, 0, 0, 0⟩) (h.newD (.mapo [] 0)) { w with heap := w.heap.push (.map #[] 0) } :=
      hs.new (loc := ⟨w.heap.size, 0, 0, 0⟩) rfl rfl ⟨#[], rfl, .nil⟩ rfl rfl rfl
    refine ⟨.map (some w.heap.size), _, _, ?_, hst, ?_⟩
    · unfold Instr.makeMap
      cases rv with
      | none => simp
      | some x =>
        obtain ⟨k, n, rfl⟩ := hrv x rfl
        simp [run_und F hu, asInt, asIntOf]
    · have := VR.map (r := r.at h.nx ⟨w.heap.size, 0, 0, 0⟩) (l := h.nx) (Ren.at_same _ _ _); exact this
theorem iface_sound (F : Fits p P) (hs : Sim P r h w) {t : Nat} {x v : V} {x' : Value} {h' : H} (hx : VR r x x') (e0 : ifaceR t x h (und p t) = some (v, h')) : Does P r h w (Instr.makeInterface t x') v h' := by
  cases hu : und p t with
  | none => rw [hu] at e0; cases e0
  | some u =>
    rw [hu] at e0
    cases u <;> simp only [ifaceR] at e0 <;> first
      | (cases e0; done)
      | (simp only [Option.some.injEq, Prod.mk.injEq] at e0
         obtain ⟨rfl, rfl⟩ := e0
         exact Does.same hs ⟨.iface t x', by simp [Instr.makeInterface, run_und F hu], .iface hx⟩)
end Go.Am
