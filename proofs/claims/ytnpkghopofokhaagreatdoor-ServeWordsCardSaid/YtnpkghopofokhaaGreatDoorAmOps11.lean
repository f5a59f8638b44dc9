/- A part of the abstract machine, or of a proof over it. -/
import Derived.Test.YtnpkghopofokhaaGreatDoorAmOps10
namespace Go.Am
variable {p : Pg} {P : Program} {r : Ren} {h : H} {w : World}

theorem zeroCells_eq (zero : Array Value) (n : Nat) : Builtin.zeroCells zero n = (rep n zero.toList).toArray := range_zero n zero
theorem lenA_sound {x : V} {x' : Value} {m : Nat} (hx : VR r x x') (e : lenA x = some m) (w : World) : (Builtin.lenOf x').run P w = .ok m w := by
  cases hx <;> simp only [lenA] at e <;> try (cases e; done)
  all_goals (simp only [Option.some.injEq] at e; subst e)
  · rename_i s
    simp only [Builtin.lenOf, Sem.run_pure, len_eq, List.length_map, Array.length_toList]
    rfl
  all_goals rfl
theorem cellsA_sound (hs : Sim P r h w) {x : V} {x' : Value} {size n : Nat} {cs : List V} (hx : VR r x x') (hn : ∀ k, lenA x = some k → n ≤ k) (hl : lenA x ≠ none) (e : cellsA size x n h = some cs) :
    ∃ cs' : List Value, (∀ d, (Builtin.firstCells size n x').run P { w with drawn := d } = .ok cs'.toArray { w with drawn := d }) ∧ VRs r cs cs' := by
  cases hx with
  | nils => simp only [cellsA, Option.some.injEq] at e; subst e; exact ⟨[], fun d => by simp [Builtin.firstCells], .nil⟩
  | sl0 a c =>
    simp only [cellsA, Option.some.injEq] at e; subst e
    have : n = 0 := by have := hn 0 rfl; omega
    subst this
    exact ⟨[], fun d => by simp [Builtin.firstCells, loadCells, loadCellsFrom], .nil⟩
  | sl hr =>
    simp only [cellsA] at e
    obtain ⟨cs', h1, h2, -⟩ := run_loadNd hs hr e
    exact ⟨cs', h1, h2⟩
  | slo c hr hc =>
    simp only [cellsA] at e
    obtain ⟨cs', h1, h2, -⟩ := run_loadNd hs hr e
    exact ⟨cs', h1, h2⟩
  | str s =>
    simp only [cellsA, beq_iff] at e
    by_cases h1 : size = 1
    case neg => rw [show decide (size = nat_lit 1) = false from decide_eq_false h1] at e; cases e
    rw [show decide (size = nat_lit 1) = true from decide_eq_true h1] at e
    simp only [takeL_eq, Option.some.injEq] at e; subst e
    refine ⟨(s.data.toList.take n).map fun b => Value.int .u8 b.toNat, fun d => ?_, ?_⟩
    · have : ((s.extract 0 n).data.map fun b => Value.int .u8 b.toNat) = ((s.data.toList.take n).map fun b => Value.int .u8 b.toNat).toArray := by
        apply Array.ext'
        rw [Array.toList_map, List.toList_toArray]
        congr 1
        simp [ByteArray.data_extract]
      show (Sem.run P (pure _) { w with drawn := d }) = _
      rw [this]; rfl
    · rw [← List.map_take]; exact u8s_sound r _
  | _ => cases e
/-- What is appended. -/
theorem newA_sound (F : Fits p P) (hs : Sim P r h w) {e : Nat} {i : TypeInfo} {z x : V} {x' : Value} {bytes m : Nat} {zeros : Bool} {new : List V} (hi : P.info? e = some i) (hz : zeroOf p e = some z) (hzl : z.cells.length = i.size) (hx : VR r x x')
    (hc : cntA bytes x zeros = some m) (e0 : newA i.size m z x h zeros = some new) : ∃ new' : List Value, (∀ d, (newS zeros e i.size m x').run P { w with drawn := d } = .ok new'.toArray { w with drawn := d }) ∧ VRs r new new' := by
  cases zeros with
  | true =>
    simp only [newA, Option.some.injEq] at e0; subst e0
    obtain ⟨z', k1, k2, k3, k4, k5⟩ := zero_cells (r := r) (n := m) F hz hi hzl
    refine ⟨rep m z'.cells.toList, fun d => ?_, k2.rep m⟩
    unfold newS
    simp only [Bool.not_true, Bool.false_eq_true, if_false, Sem.run_ite]
    by_cases h0 : m * i.size = 0
    · rw [if_pos h0, k4 h0]; rfl
    · rw [if_neg h0]; simp only [Sem.run_bind, run_zero hi k1, Result.andThen_ok, Sem.run_pure, zeroCells_eq]
  | false =>
    simp only [cntA] at hc
    simp only [newA] at e0
    obtain ⟨cs', h1, h2⟩ := cellsA_sound hs hx (fun k hk => by rw [hc] at hk; cases hk; exact Nat.le_refl _) (by rw [hc]; simp) e0
    exact ⟨cs', fun d => by simp only [newS, Bool.not_false, if_true]; exact h1 d, h2⟩
/-- A row that grows, in the model: into a new block. -/
theorem run_grow (F : Fits p P) {e : Nat} {i : TypeInfo} {z : V} {m sLen sCap : Nat} {x' s' : Value} {zeros : Bool} (hi : P.info? e = some i) (hz : zeroOf p e = some z) (hzl : z.cells.length = i.size)
    {old new : List Value} (ho : ∀ d, (Builtin.firstCells i.size sLen s').run P { w with drawn := d } = .ok old.toArray { w with drawn := d }) (hn : ∀ d, (newS zeros e i.size m x').run P { w with drawn := d } = .ok new.toArray { w with drawn := d }) :
    ∃ (c d : Nat) (rest : List Value), sLen + m ≤ c ∧ rest.length = (c - (sLen + m)) * i.size ∧
      (growS zeros e i.size i.bytes m x' s' sLen sCap).run P w = .ok (.slice (some ⟨w.heap.size, 0, none⟩) (sLen + m) c) { w with drawn := d, heap := w.heap.push (.cells (old ++ new ++ rest).toArray e) } := by
  obtain ⟨z', k1, k2, k3, -, -⟩ := zero_cells (r := fun _ => none) (n := 0) F hz hi hzl
  obtain ⟨c, hc, hch⟩ := run_choose_cap (P := P) (sLen + m) sCap e w
  refine ⟨c, w.drawn + 1, rep (c - (sLen + m)) z'.cells.toList, hc, by rw [rep_length, Array.length_toList, k3], ?_⟩
  unfold growS
  simp only [Sem.run_bind, hch, Result.andThen_ok, run_askRoom, ho, hn, run_zero hi k1, zeroCells_eq, Go.newRow, run_newObj, Sem.run_pure]
  simp
theorem growA_does (F : Fits p P) (hs : Sim P r h w) {e : Nat} {i : TypeInfo} {z : V} {m sLen sCap : Nat} {x' s' : Value} {zeros : Bool} (hi : P.info? e = some i) (hz : zeroOf p e = some z) (hzl : z.cells.length = i.size)
    {old new : List Value} {cs : List V} (ho : ∀ d, (Builtin.firstCells i.size sLen s').run P { w with drawn := d } = .ok old.toArray { w with drawn := d }) (hn : ∀ d, (newS zeros e i.size m x').run P { w with drawn := d } = .ok new.toArray { w with drawn := d })
    (hc : VRs r cs (old ++ new)) (hlen : (old ++ new).length = (sLen + m) * i.size) :
    Does P r h w (growS zeros e i.size i.bytes m x' s' sLen sCap) (.sl h.nx 0 (sLen + m) none) (h.newD (.cells (T.lf.puts 0 cs) cs.length e .no true)) := by
  obtain ⟨c, d, rest, h1, h2, h3⟩ := run_grow (p := p) (w := w) (sCap := sCap) F hi hz hzl ho hn
  refine ⟨_, _, _, h3, (hs.row (elem := e) (cs := cs) (cs' := old ++ new) (rest := rest) (opn := true) (frz := .no) (lo := 0) (hi := 0) (esz := i.size) hc (fun hh => by cases hh) ⟨rfl, rfl⟩ (fun _ => ⟨i, hi, rfl⟩) rfl rfl rfl rfl), ?_⟩
  have := VR.slo (r := r.at h.nx ⟨w.heap.size, 0, (old ++ new).length + rest.length, i.size⟩) (l := h.nx) (o := 0) (n := sLen + m) (loc := ⟨w.heap.size, 0, (old ++ new).length + rest.length, i.size⟩) c (Ren.at_same _ _ _)
    (by simp only []; rw [hlen, h2, ← Nat.add_mul, Nat.zero_add]; congr 1; omega)
  exact this
theorem growA_some {e bytes need : Nat} {cs : List V} {v : V} {h' : H} (e0 : growA e bytes need cs h = some (v, h')) : growOk bytes need = true ∧ v = .sl h.nx 0 need none ∧ h' = h.newD (.cells (T.lf.puts 0 cs) cs.length e .no true) := by
  unfold growA at e0
  cases hg : growOk bytes need with
  | false => rw [hg] at e0; cases e0
  | true =>
    rw [hg] at e0
    simp only [newRow_eq, Option.some.injEq, Prod.mk.injEq] at e0
    exact ⟨rfl, e0.1.symm, e0.2.symm⟩
/-- A row that has room: the cells are stored behind its end. -/
theorem fit_does (hs : Sim P r h w) {e size m : Nat} {x' : Value} {zeros : Bool} {l o n c : Nat} {loc : Loc} {new : List V} {new' : List Value} {h' : H} (hr : r l = some loc) (hn : (newS zeros e size m x').run P w = .ok new'.toArray w) (hc : VRs r new new')
    (e0 : storeN h l (o + n * size) new some = some h') :
    ∃ w', (fitS zeros e size m x' (some ⟨loc.blk, loc.off + o, none⟩) n c).run P w = .ok (.slice (some ⟨loc.blk, loc.off + o, none⟩) (n + m) c) w' ∧ Step P r h w r h' w' := by
  unfold fitS
  simp only [Sem.run_bind, hn, Result.andThen_ok, Addr.add_none, Nat.add_assoc]
  rcases storeN_some e0 with ⟨hnil, hk⟩ | ⟨vs, n1, elem, frz, opn, hl, h1, h2, h3, hk⟩
  · subst hnil
    cases hc
    cases hk
    exact ⟨w, by simp [storeCells], Step.refl hs⟩
  · cases hk
    obtain ⟨w', h4, h5⟩ := run_storeN hs hr hc hl h1 h2 h3
    exact ⟨w', by simp only [h4, Result.andThen_ok, Sem.run_pure], h5⟩
theorem u8s_length (l : List Nat) : (u8s l).length = l.length := by induction l <;> simp_all [u8s]
theorem loadN_length {l o n : Nat} {cs : List V} (e : loadN h l o n = some cs) : cs.length = n := by
  unfold loadN rangeOf at e
  split at e
  · rw [T.range_some] at e; exact e.1
  · cases e
theorem newA_length {bytes size m : Nat} {z x : V} {zeros : Bool} {new : List V} (hzl : z.cells.length = size) (hc : cntA bytes x zeros = some m) (e0 : newA size m z x h zeros = some new) : new.length = m * size := by
  cases zeros with
  | true => simp only [newA, Option.some.injEq] at e0; subst e0; rw [rep_length, hzl]
  | false =>
    simp only [cntA] at hc
    simp only [newA] at e0
    cases x <;> simp only [lenA, cellsA] at hc e0 <;> try (cases hc; done)
    · simp only [Option.some.injEq, len_eq] at hc; subst hc
      simp only [beq_iff] at e0
      rename_i s
      by_cases h1 : size = 1
      · rw [show decide (size = nat_lit 1) = true from decide_eq_true h1] at e0
        simp only [Option.some.injEq, takeL_eq, List.take_length] at e0; subst e0
        rw [u8s_length, h1, Nat.mul_one]
      · rw [show decide (size = nat_lit 1) = false from decide_eq_false h1] at e0; cases e0
    · cases hc; cases e0; simp
    · cases hc; exact loadN_length e0
    · cases hc; cases e0; simp
theorem FzR_zero (loc : Loc) (frz : Fz) : FzR 0 0 loc frz := by
  cases frz with
  | no => exact ⟨rfl, rfl⟩
  | pre z => exact Nat.zero_le _
  | tail => intro i _ hh; omega
theorem raw_load {b off n : Nat} {c : Array Value} {e : TypeId} {fr : Nat × Nat} {w : World} (hb : w.heap[b]? = some (.cells c e fr)) (hle : off + n ≤ c.size) :
    (loadCells ⟨b, off, none⟩ n).run P w = .ok ((c.toList.drop off).take n).toArray w := by
  have hlen : ((c.toList.drop off).take n).length = n := by rw [List.length_take, List.length_drop, Array.length_toList]; omega
  have := run_loadCells_list (P := P) w ⟨b, off, none⟩ ((c.toList.drop off).take n) (fun j v hv => by
    rw [Addr.add_none]
    rw [List.getElem?_take] at hv
    split at hv
    · rw [List.getElem?_drop, Array.getElem?_toList] at hv
      simp only [World.cell?, hb]
      exact hv
    · cases hv)
  rw [hlen] at this; exact this
theorem move_does (F : Fits p P) (hs : Sim P r h w) {e : Nat} {i : TypeInfo} {z : V} {m n c l o kn kn' : Nat} {vs vs' : T V} {frz frz' : Fz} {loc : Loc} {x' : Value} {zeros : Bool} {new : List V} {new' : List Value}
    (hi : P.info? e = some i) (hz : zeroOf p e = some z) (hzl : z.cells.length = i.size) (hr : r l = some loc) (hl : h.get l = some (.cells vs kn e frz true)) (hcap : o + c * loc.esz = loc.lim) (_hsz : 1 ≤ i.size)
    (hkn : kn = o + n * i.size) (hn : ∀ d, (newS zeros e i.size m x').run P { w with drawn := d } = .ok new'.toArray { w with drawn := d }) (hc : VRs r new new') (hnl : new.length = m * i.size)
    (hfz : fzOk kn frz = true) (hp : plains new = true) (hk' : kn' = n * i.size + new.length)
    (hget : ∀ j v, vs'.get j = some v → (j < n * i.size ∧ vs.get (o + j) = some v) ∨ (n * i.size ≤ j ∧ new[j - n * i.size]? = some v))
    (hfz' : ∀ lo hi, FzR lo hi loc frz → FzR lo hi ⟨loc.blk, loc.off + o, loc.lim - o, loc.esz⟩ frz') :
    ∃ v' w' r', (if n + m ≤ c then (fitS zeros e i.size m x' (some ⟨loc.blk, loc.off + o, none⟩) n c).run P w else (growS zeros e i.size i.bytes m x' (.slice (some ⟨loc.blk, loc.off + o, none⟩) n c) n c).run P w) = .ok v' w' ∧
      Step P r h w r' ((h.delD l).newD (.cells vs' kn' e frz' true)) w' ∧ VR r' (.sl h.nx 0 (n + m) none) v' := by
  obtain ⟨-, loc', mo, e1, e2, c0, lo, hi0, rfl, hR, hlim, hsize, hop, hfzr, hel⟩ := hs.obj l _ hl
  rw [hr] at e1; cases e1
  obtain ⟨i', hi', hie⟩ := hel rfl
  rw [hi] at hi'; cases hi'
  have hlen := hc.length
  have hmul : (n + m) * i.size = n * i.size + m * i.size := Nat.add_mul _ _ _
  rw [← hie] at hcap
  by_cases hfit : n + m ≤ c
  · rw [if_pos hfit]
    have hroom : kn + new.length ≤ loc.lim := by
      have : (n + m) * i.size ≤ c * i.size := Nat.mul_le_mul_right _ hfit
      omega
    have hcell : ∀ j, j < new'.length → (w.cell? ⟨loc.blk, loc.off + kn + 0 + j, none⟩).isSome = true := fun j hj => by
      simp only [World.cell?, e2]; simp; omega
    have hfr : ∀ j, j < new'.length → w.frozen? ⟨loc.blk, loc.off + kn + 0 + j, none⟩ = false := fun j hj => by
      have := fz_store hfzr hfz (kn + j) (by omega) (by omega)
      simp only [World.frozen?, e2]
      rw [Bool.eq_false_iff]
      intro hh
      simp only [Bool.and_eq_true, decide_eq_true_eq] at hh
      exact this ⟨by omega, by omega⟩
    have hrun := run_storeCells_cells (P := P) loc.blk (loc.off + kn) new' 0 w hcell hfr (hc.plains hp)
    obtain ⟨k1, k2, k3, k4, k5, c', k6, k7, k8⟩ := setCells_heap loc.blk new' (loc.off + kn) w c0 e (lo, hi0) e2 (by omega)
    have hgrow := hs.grow (o' := .cells vs' kn' e frz' true) (loc' := ⟨loc.blk, loc.off + o, loc.lim - o, loc.esz⟩) hl (by simp) hr rfl k1 k6 k2 ?_ k3 k4 k5
    · refine ⟨.slice (some ⟨loc.blk, loc.off + o, none⟩) (n + m) c, _, _, ?_, hgrow, ?_⟩
      · unfold fitS
        have hn0 := hn w.drawn
        simp only [Sem.run_bind]
        rw [show ({ w with drawn := w.drawn } : World) = w from rfl] at hn0
        simp only [hn0, Result.andThen_ok, Addr.add_none]
        rw [show loc.off + o + n * i.size = loc.off + kn by omega]
        have hrun' : (storeCells ⟨loc.blk, loc.off + kn, none⟩ new').run P w = .ok () (w.setCells loc.blk (loc.off + kn) new') := hrun
        simp only [hrun', Result.andThen_ok, Sem.run_pure]
      · have := VR.slo (r := r.at h.nx ⟨loc.blk, loc.off + o, loc.lim - o, loc.esz⟩) (l := h.nx) (o := 0) (n := n + m) (loc := ⟨loc.blk, loc.off + o, loc.lim - o, loc.esz⟩) c (Ren.at_same _ _ _) (by simp only []; rw [← hie]; omega)
        exact this
    · refine ⟨c', lo, hi0, rfl, fun j v hv => ?_, by simp only []; omega, by simp only []; omega, fun hh => (by cases hh), hfz' lo hi0 hfzr, fun _ => ⟨i, hi, hie⟩⟩
      have hle : r.le (r.at h.nx ⟨loc.blk, loc.off + o, loc.lim - o, loc.esz⟩) := Ren.le_at _ (hs.fresh _ (Nat.le_refl _))
      rw [k8]
      rcases hget j v hv with ⟨hj, hv⟩ | ⟨hj, hv⟩
      · obtain ⟨q1, v', q2, q3⟩ := hR _ _ hv
        refine ⟨by omega, v', ?_, q3.mono hle⟩
        rw [if_neg (by simp only []; omega)]
        simp only []
        rw [Nat.add_assoc]; exact q2
      · obtain ⟨v', q2, q3⟩ := hc.get hv
        have := (List.getElem?_eq_some_iff.1 hv).1
        refine ⟨by omega, v', ?_, q3.mono hle⟩
        rw [if_pos (by simp only []; omega)]
        simp only []
        rw [show loc.off + o + j - (loc.off + kn) = j - n * i.size by omega]; exact q2
  · rw [if_neg hfit]
    have hold : ∀ d, (Builtin.firstCells i.size n (.slice (some ⟨loc.blk, loc.off + o, none⟩) n c)).run P { w with drawn := d } = .ok ((c0.toList.drop (loc.off + o)).take (n * i.size)).toArray { w with drawn := d } := fun d =>
      raw_load (w := { w with drawn := d }) e2 (by omega)
    obtain ⟨c1, d, rest, h1, h2, h3⟩ := run_grow (p := p) (w := w) (sCap := c) F hi hz hzl hold hn
    have hdel := hs.del l (fun vs e hh => by rw [hl] at hh; cases hh)
    have holdl : ((c0.toList.drop (loc.off + o)).take (n * i.size)).length = n * i.size := by rw [List.length_take, List.length_drop, Array.length_toList]; omega
    generalize hO : (c0.toList.drop (loc.off + o)).take (n * i.size) = O at h3 holdl
    have hnew := Step.trans hdel (hdel.sim.new (o := .cells vs' kn' e frz' true) (loc := ⟨w.heap.size, 0, (O ++ new' ++ rest).length, i.size⟩) (w' := { w with drawn := d, heap := w.heap.push (.cells (O ++ new' ++ rest).toArray e) }) rfl rfl ?_ rfl rfl rfl)
    · refine ⟨_, _, _, h3, hnew, ?_⟩
      have := VR.slo (r := r.at (h.delD l).nx ⟨w.heap.size, 0, (O ++ new' ++ rest).length, i.size⟩) (l := h.nx) (o := 0) (n := n + m) (loc := ⟨w.heap.size, 0, (O ++ new' ++ rest).length, i.size⟩) c1 (Ren.at_same _ _ _)
        (by simp only [List.length_append]; rw [holdl, h2, ← hlen, hnl, ← hmul, ← Nat.add_mul, Nat.zero_add]; congr 1; omega)
      exact this
    · refine ⟨_, 0, 0, rfl, fun j v hv => ?_, by simp only [List.length_append]; omega, by simp, fun hh => (by cases hh), FzR_zero _ _, fun _ => ⟨i, hi, rfl⟩⟩
      have hle : r.le (r.at (h.delD l).nx ⟨w.heap.size, 0, (O ++ new' ++ rest).length, i.size⟩) := Ren.le_at _ (hs.fresh _ (Nat.le_refl _))
      simp only [Nat.zero_add, List.getElem?_toArray]
      rcases hget j v hv with ⟨hj, hv⟩ | ⟨hj, hv⟩
      · obtain ⟨q1, v', q2, q3⟩ := hR _ _ hv
        refine ⟨by omega, v', ?_, q3.mono hle⟩
        rw [List.append_assoc, List.getElem?_append_left (by omega), ← hO, List.getElem?_take, if_pos hj, List.getElem?_drop, Array.getElem?_toList, Nat.add_assoc]
        exact q2
      · obtain ⟨v', q2, q3⟩ := hc.get hv
        have := (List.getElem?_eq_some_iff.1 hv).1
        refine ⟨by omega, v', ?_, q3.mono hle⟩
        rw [List.append_assoc, List.getElem?_append_right (by omega), holdl, List.getElem?_append_left (by omega)]
        exact q2
end Go.Am
