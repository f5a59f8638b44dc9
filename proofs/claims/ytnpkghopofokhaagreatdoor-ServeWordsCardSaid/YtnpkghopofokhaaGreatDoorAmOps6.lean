/- A part of the abstract machine, or of a proof over it. -/
import Derived.Test.YtnpkghopofokhaaGreatDoorAmOps5
namespace Go.Am
variable {p : Pg} {P : Program} {r : Ren} {h : H} {w : World}

/-! ### Conversions -/
theorem cells_shape (hs : Sim P r h w) {l : Nat} {vs : T V} {n e : Nat} {frz : Fz} {opn : Bool} {loc : Loc} (hr : r l = some loc) (hl : h.get l = some (.cells vs n e frz opn)) :
    ∃ c lo hi, w.heap[loc.blk]? = some (.cells c e (lo, hi)) ∧ CellsR r loc.off n vs c ∧ n ≤ loc.lim ∧ c.size = loc.off + loc.lim ∧ (opn = false → loc.off = 0 ∧ loc.lim = n) ∧ FzR lo hi loc frz ∧ (opn = true → ∃ i, P.info? e = some i ∧ i.size = loc.esz) := by
  obtain ⟨-, loc', m, e1, e2, c, lo, hi, rfl, hR⟩ := hs.obj l _ hl
  rw [hr] at e1; cases e1
  exact ⟨c, lo, hi, e2, hR⟩
theorem memLies_mem {e o u : Nat} : ∀ {l : List (Nat × Nat × Nat)}, memLies e o u l = true → (e, o, u) ∈ l
  | [], h => by cases h
  | (a, b, c) :: l, h => by
    simp only [memLies, beq_iff] at h
    by_cases hc : a = e ∧ b = o ∧ c = u
    · obtain ⟨rfl, rfl, rfl⟩ := hc; simp
    · have : (decide (a = e) && decide (b = o) && decide (c = u)) = false := by
        rw [Bool.eq_false_iff]; intro hh; simp at hh; exact hc ⟨hh.1.1, hh.1.2, hh.2⟩
      rw [this] at h
      exact List.mem_cons_of_mem _ (memLies_mem h)
theorem run_seenAt {a : Addr} {c : Array Value} {e : TypeId} {fr : Nat × Nat} (hb : w.heap[a.block]? = some (.cells c e fr)) : (Conv.seenAt a).run P w = .ok a w := by
  have hsh : w.shape? a.block = some (e, c.size) := by simp [World.shape?, hb]
  simp [Conv.seenAt, viewAt, hsh]
theorem bytesToStr_sound (hs : Sim P r h w) {l o n : Nat} {cs : List V} {s : List Nat} {loc : Loc} (c : Nat) (hr : r l = some loc) (hl : loadN h l o n = some cs) (hb : bytesV cs = some s) :
    ∃ v', (Conv.bytesToString (.slice (some ⟨loc.blk, loc.off + o, none⟩) n c)).run P w = .ok v' w ∧ VR r (.str s) v' := by
  obtain ⟨cs', h1, h2, h3⟩ := run_loadN hs hr hl
  obtain ⟨rfl, hlt⟩ := bytesV_sound h2 hb
  exact ⟨_, run_bytesToStr h1, strOf_sound r hlt⟩
theorem convA_sound (F : Fits p P) (hs : Sim P r h w) {src dst : Nat} {x v : V} {x' : Value} {h' : H} (hx : VR r x x') (e : convA p src dst x h = some (v, h')) : Does P r h w (convert src dst x') v h' := by
  unfold convA at e
  split at e
  · rename_i u k k2 n h1 h2
    simp only [wrapI_eq, Option.some.injEq, Prod.mk.injEq] at e
    obtain ⟨rfl, rfl⟩ := e
    cases hx
    exact Does.same hs ⟨.int k (k.wrap n), by simp [convert, run_und F h1, run_und F h2, Conv.intToInt], .int _ _⟩
  · rename_i u k2 n h1 h2
    simp only [forceB_eq, Option.some.injEq, Prod.mk.injEq] at e
    obtain ⟨rfl, rfl⟩ := e
    cases hx
    refine Does.same hs ⟨.string (Utf8.encode n), by simp [convert, run_und F h1, run_und F h2, Conv.intToString], ?_⟩
    rw [← encR_sound]; exact .str _
  · rename_i u s h1 h2
    simp only [Option.some.injEq, Prod.mk.injEq] at e
    obtain ⟨rfl, rfl⟩ := e
    cases hx
    exact Does.same hs ⟨_, by simp [convert, run_und F h1, run_und F h2], .str _⟩
  · rename_i u el s h1 h2
    cases hu : und p el with
    | none => rw [hu] at e; cases e
    | some ue =>
      rw [hu] at e
      cases ue <;> (try simp only [] at e) <;> try (cases e; done)
      rename_i k
      cases k <;> (try simp only [] at e) <;> try (cases e; done)
      cases hz : szOf p el with
      | none => rw [hz] at e; cases e
      | some sz =>
        rw [hz] at e
        split at e
        · rename_i hsz
          simp only [newRow_eq, forceNat_eq, len_eq, Option.some.injEq, Prod.mk.injEq] at e
          obtain ⟨rfl, rfl⟩ := e
          cases hx
          rename_i s
          obtain ⟨i, hi, hiz⟩ := szOf_sound F hz
          simp only [Option.some.injEq] at hsz
          have := strToBytes_does hs (P := P) hi (by rw [hiz, hsz]) s
          rw [List.length_map]
          obtain ⟨v', w', r', k1, k2, k3⟩ := this
          exact ⟨v', w', r', by simp [convert, run_und F h1, run_und F h2, run_und F hu, k1], k2, k3⟩
        · cases e
  · rename_i u h1 h2
    simp only [Option.some.injEq, Prod.mk.injEq] at e
    obtain ⟨rfl, rfl⟩ := e
    cases hx
    exact Does.same hs ⟨_, by simp [convert, run_und F h1, run_und F h2, Conv.unsafePointer], .nilp⟩
  · rename_i t l o h1 h2
    split at e
    · rename_i sz vs n el frz opn hz hl
      simp only [blt_iff] at e
      by_cases hlt : o < n
      · rw [decide_eq_true hlt] at e
        simp only [Option.some.injEq, Prod.mk.injEq] at e
        obtain ⟨rfl, rfl⟩ := e
        cases hx with | ptr hr =>
        rename_i loc
        obtain ⟨c, lo, hi, hb, -, hle, hcs, -⟩ := cells_shape hs hr hl
        refine Does.same hs ⟨.pointer (some ⟨loc.blk, loc.off + o, none⟩), ?_, .ptr hr⟩
        have hsh : w.shape? loc.blk = some (el, c.size) := by simp [World.shape?, hb]
        have hseen : (Conv.seenAt ⟨loc.blk, loc.off + o, none⟩).run P w = .ok ⟨loc.blk, loc.off + o, none⟩ w := run_seenAt hb
        have hnot : ¬ (loc.off + o ≥ c.size) := by omega
        simp [convert, run_und F h1, run_und F h2, Conv.unsafePointer, hseen, cellsIn, hsh, run_sz F hz, hnot]
      · rw [decide_eq_false hlt] at e; cases e
    · cases e
  · rename_i u h1 h2
    simp only [Option.some.injEq, Prod.mk.injEq] at e
    obtain ⟨rfl, rfl⟩ := e
    cases hx
    exact Does.same hs ⟨_, by simp [convert, run_und F h1, run_und F h2, Conv.unsafePointer], .nilp⟩
  · rename_i u l o h1 h2
    split at e
    · rename_i vs n el frz hl
      split at e
      · rename_i s su hz hzu
        split at e
        · rename_i hc
          simp only [Option.some.injEq, Prod.mk.injEq] at e
          obtain ⟨rfl, rfl⟩ := e
          simp only [beq_iff, blt_iff, Bool.and_eq_true, decide_eq_true_eq] at hc
          obtain ⟨⟨rfl, hlt⟩, hmem⟩ := hc
          cases hx with | ptr hr =>
          rename_i loc
          obtain ⟨c, lo, hi, hb, -, hle, hcs, hop, -⟩ := cells_shape hs hr hl
          obtain ⟨hoff, hlim⟩ := hop rfl
          refine Does.same hs ⟨.pointer (some ⟨loc.blk, loc.off + o, none⟩), ?_, .ptr hr⟩
          have hsh : w.shape? loc.blk = some (el, c.size) := by simp [World.shape?, hb]
          have hseen : (Conv.seenAt ⟨loc.blk, loc.off + o, none⟩).run P w = .ok ⟨loc.blk, loc.off + o, none⟩ w := run_seenAt hb
          obtain ⟨i, hi', hiz⟩ := szOf_sound F hz
          have hcell : P.cellsOf el = s := by simp [Program.cellsOf, hi', hiz]
          have hdiv : c.size / P.cellsOf el = 1 := by rw [hcell, hcs, hoff, hlim, Nat.zero_add]; exact Nat.div_self (by omega)
          have hlies : liesAt P P.depth el (c.size / P.cellsOf el) (loc.off + o) u 1 = true := by
            rw [hdiv, hoff, Nat.zero_add]; exact F.lies el o u (memLies_mem hmem)
          simp [convert, run_und F h1, run_und F h2, Conv.unsafePointer, hseen, variablesAt, hsh, run_sz F hzu, hlies]
        · cases e
      · cases e
    · cases e
  · rename_i el h1 h2 _ _
    cases hu : und p el with
    | none => rw [hu] at e; cases e
    | some ue =>
      rw [hu] at e
      cases ue <;> (try simp only [] at e) <;> try (cases e; done)
      rename_i k
      cases k <;> (try simp only [] at e) <;> try (cases e; done)
      have hconv : ∀ a n c, (convert src dst (.slice a n c)).run P w = (Conv.bytesToString (.slice a n c)).run P w := fun a n c => by
        simp [convert, run_und F h1, run_und F h2, run_und F hu]
      have key : ∀ l o n loc c, r l = some loc → (match loadN h l o n with
        | some cs => match bytesV cs with
          | some s => forceB s fun s => some (V.str s, h)
          | none => none
        | none => none) = some (v, h') → Does P r h w (convert src dst (.slice (some ⟨loc.blk, loc.off + o, none⟩) n c)) v h' := by
        intro l o n loc c hr e1
        cases hl : loadN h l o n with
        | none => rw [hl] at e1; cases e1
        | some cs =>
          rw [hl] at e1
          simp only [] at e1
          cases hb : bytesV cs with
          | none => rw [hb] at e1; cases e1
          | some s =>
            rw [hb] at e1
            simp only [forceB_eq, Option.some.injEq, Prod.mk.injEq] at e1
            obtain ⟨rfl, rfl⟩ := e1
            obtain ⟨v', k1, k2⟩ := bytesToStr_sound hs c hr hl hb
            exact Does.same hs ⟨v', by rw [hconv]; exact k1, k2⟩
      cases hx with
      | nils =>
        simp only [Option.some.injEq, Prod.mk.injEq] at e
        obtain ⟨rfl, rfl⟩ := e
        exact Does.same hs ⟨.string .empty, by rw [hconv]; rfl, VR.str ByteArray.empty⟩
      | sl0 a c =>
        simp only [Option.some.injEq, Prod.mk.injEq] at e
        obtain ⟨rfl, rfl⟩ := e
        exact Does.same hs ⟨.string .empty, by rw [hconv]; rfl, VR.str ByteArray.empty⟩
      | sl hr => exact key _ _ _ _ _ hr e
      | slo c hr hc => exact key _ _ _ _ _ hr e
      | _ => cases e
  · cases e

/-! ### Fields -/
theorem fieldsOf_some {t f : Nat} {fl : Field} (e : fieldsOf p t f = some fl) : ∃ fs, und p t = some (.struct fs) ∧ fs[f]? = some fl := by
  unfold fieldsOf at e
  cases hu : und p t with
  | none => rw [hu] at e; cases e
  | some u =>
    rw [hu] at e
    cases u <;> (try simp only [] at e) <;> try (cases e; done)
    rename_i fs
    rw [nth_eq, Array.getElem?_toList] at e
    exact ⟨fs, rfl, e⟩
theorem faR_sound (F : Fits p P) (hs : Sim P r h w) {t f : Nat} {fl : Field} {x v : V} {x' : Value} {h' : H} (hx : VR r x x') (hf : fieldsOf p t f = some fl) (e : faR p fl h x = some (v, h')) :
    Does P r h w (Instr.fieldAt t x' f) v h' := by
  obtain ⟨fs, hu, hfs⟩ := fieldsOf_some hf
  cases hx with
  | ptr hr =>
    rename_i l o loc
    simp only [faR] at e
    split at e
    · rename_i n hz
      simp only [forceNat_eq, Option.some.injEq, Prod.mk.injEq] at e
      obtain ⟨rfl, rfl⟩ := e
      refine Does.same hs ⟨.pointer (some ⟨loc.blk, loc.off + (o + fl.offset), none⟩), ?_, .ptr hr⟩
      simp [Instr.fieldAt, run_und F hu, hfs, Instr.sureAddr, fieldPlace, run_sz F hz, Addr.add_none, Nat.add_assoc]
    · cases e
  | _ => cases e
theorem fR_sound (F : Fits p P) (hs : Sim P r h w) {t f : Nat} {fl : Field} {x v : V} {x' : Value} {h' : H} (hx : VR r x x') (hf : fieldsOf p t f = some fl) (e : fR p fl h x = some (v, h')) :
    Does P r h w (Instr.field t x' f) v h' := by
  obtain ⟨fs, hu, hfs⟩ := fieldsOf_some hf
  cases hx with
  | agg hc =>
    rename_i cs cs'
    simp only [fR] at e
    cases hp : part p fl.type cs fl.offset with
    | none => rw [hp] at e; cases e
    | some u =>
      rw [hp] at e
      simp only [exV, Option.some.injEq, Prod.mk.injEq] at e
      obtain ⟨rfl, rfl⟩ := e
      obtain ⟨v', k1, k2⟩ := run_part F hc hp w
      exact Does.same hs ⟨v', by simp [Instr.field, run_und F hu, hfs, asAgg, k1], k2⟩
  | _ => cases e

/-! ### Building -/
theorem fill_length : ∀ (off : Nat) (cells vs : List V), (fill cells off vs).length = cells.length
  | 0, [], [] => rfl
  | 0, [], _ :: _ => rfl
  | 0, _ :: _, [] => by simp [fill]
  | 0, _ :: cs, _ :: vs => by simp [fill, fill_length 0 cs vs]
  | n + 1, [], _ => by simp [fill]
  | n + 1, _ :: cs, vs => by simp [fill, fill_length n cs vs]
theorem fill_get : ∀ (off : Nat) (cells vs : List V) (i : Nat), off + vs.length ≤ cells.length → (fill cells off vs)[i]? = if off ≤ i ∧ i < off + vs.length then vs[i - off]? else cells[i]?
  | 0, cells, [], i, _ => by
    have : fill cells 0 [] = cells := by cases cells <;> rfl
    rw [this, if_neg (by simp)]
  | 0, [], _ :: _, i, h => by simp at h
  | 0, c :: cs, v :: vs, 0, h => by simp [fill]
  | 0, c :: cs, v :: vs, i + 1, h => by
    simp only [fill, List.getElem?_cons_succ]
    rw [fill_get 0 cs vs i (by simpa using h)]
    simp
  | n + 1, [], vs, i, h => by simp at h
  | n + 1, c :: cs, vs, 0, h => by simp [fill]
  | n + 1, c :: cs, vs, i + 1, h => by
    simp only [fill, List.getElem?_cons_succ]
    rw [fill_get n cs vs i (by simp at h; omega)]
    by_cases hc : n ≤ i ∧ i < n + vs.length
    · rw [if_pos hc, if_pos (by omega)]; congr 1; omega
    · rw [if_neg hc, if_neg (by omega)]
theorem foldl_zipIdx_get (off : Nat) : ∀ (l : List Value) (k : Nat) (cells : Array Value) (i : Nat), off + k + l.length ≤ cells.size →
    ((l.zipIdx k).foldl (fun cs (c, j) => cs.setIfInBounds (off + j) c) cells)[i]? = if off + k ≤ i ∧ i < off + k + l.length then l[i - (off + k)]? else cells[i]?
  | [], k, cells, i, _ => by simp only [List.zipIdx_nil, List.foldl_nil, List.length_nil]; rw [if_neg (by omega)]
  | v :: l, k, cells, i, h => by
    simp only [List.zipIdx_cons, List.foldl_cons]
    rw [foldl_zipIdx_get off l (k + 1) _ i (by simp at h ⊢; omega)]
    simp only [List.length_cons] at h
    by_cases h1 : off + (k + 1) ≤ i ∧ i < off + (k + 1) + l.length
    · rw [if_pos h1, if_pos (by simp; omega)]
      rw [show i - (off + k) = (i - (off + (k + 1))) + 1 by omega, List.getElem?_cons_succ]
    · rw [if_neg h1, Array.getElem?_setIfInBounds]
      by_cases h2 : off + k = i
      · subst h2
        rw [if_pos rfl, if_pos (by omega), if_pos (by simp)]; simp
      · rw [if_neg h2, if_neg (by simp only [List.length_cons]; omega)]
theorem foldl_zipIdx_size (off : Nat) : ∀ (l : List Value) (k : Nat) (cells : Array Value), ((l.zipIdx k).foldl (fun cs (c, j) => cs.setIfInBounds (off + j) c) cells).size = cells.size
  | [], k, cells => rfl
  | v :: l, k, cells => by simp only [List.zipIdx_cons, List.foldl_cons]; rw [foldl_zipIdx_size off l (k + 1)]; simp
inductive PartsR (r : Ren) : List (Nat × V) → List (Nat × Value) → Prop
  | nil : PartsR r [] []
  | cons {i : Nat} {v : V} {v' : Value} {l : List (Nat × V)} {l' : List (Nat × Value)} (h : VR r v v') (t : PartsR r l l') : PartsR r ((i, v) :: l) ((i, v') :: l')
theorem fillAll_sound {place place' : Nat → Option (Nat × Nat)} (hpl : ∀ i x, place i = some x → place' i = some x) : ∀ {ps : List (Nat × V)} {ps' : List (Nat × Value)} {cells out : List V} {cells' : Array Value},
    PartsR r ps ps' → VRs r cells cells'.toList → fillAll place cells ps = some out → ∃ out', Instr.fill place' cells' ps' = some out' ∧ VRs r out out'.toList
  | _, _, cells, out, cells', .nil, hc, e => by simp only [fillAll, Option.some.injEq] at e; subst e; exact ⟨cells', rfl, hc⟩
  | _, _, cells, out, cells', .cons (i := i) (v := v) (v' := v') hv t, hc, e => by
    simp only [fillAll] at e
    cases hp : place i with
    | none => rw [hp] at e; cases e
    | some x =>
      obtain ⟨off, size⟩ := x
      rw [hp] at e
      simp only [] at e
      split at e
      · cases e
      · rename_i hb
        obtain ⟨hnt, hb'⟩ := notTop_true hb rfl
        simp only [beq_iff, ble_iff, len_eq, Bool.and_eq_true, decide_eq_true_eq] at hb'
        obtain ⟨h1, h2⟩ := hb'
        have h2' : off + size ≤ cells.length := h2
        rw [forceL_eq] at e
        have hvc := hv.cells hnt
        have hlen : v.cells.length = v'.cells.size := by rw [hvc.length, Array.length_toList]
        have hcl : cells.length = cells'.size := by rw [hc.length, Array.length_toList]
        have hnew : VRs r (fill cells off v.cells) (v'.cells.zipIdx.foldl (fun cs (c, j) => cs.setIfInBounds (off + j) c) cells').toList := by
          rw [← Array.foldl_toList, Array.toList_zipIdx]
          refine VRs.of_get ?_ fun j u hu => ?_
          · exact (fill_length _ _ _).trans (hcl.trans (by rw [Array.length_toList, foldl_zipIdx_size]))
          · rw [fill_get _ _ _ _ (by omega)] at hu
            rw [Array.getElem?_toList, foldl_zipIdx_get off v'.cells.toList 0 cells' j (by rw [Array.length_toList]; omega)]
            simp only [Nat.add_zero, Array.length_toList]
            by_cases hj : off ≤ j ∧ j < off + v.cells.length
            · rw [if_pos hj] at hu
              rw [if_pos (by omega)]
              exact hvc.get hu
            · rw [if_neg hj] at hu
              rw [if_neg (by omega)]
              obtain ⟨u', k1, k2⟩ := hc.get hu
              exact ⟨u', by rw [Array.getElem?_toList] at k1; exact k1, k2⟩
        obtain ⟨out', k1, k2⟩ := fillAll_sound hpl t hnew e
        refine ⟨out', ?_, k2⟩
        simp only [Instr.fill, hpl i _ hp]
        rw [if_neg (by simp; omega)]
        exact k1
theorem placesOf_sound (F : Fits p P) : ∀ {fs : List Field} {pl : List (Nat × Nat)}, placesOf p fs = some pl → (fs.mapM (fun f => do pure (f.offset, ← sizeOf f.type) : Field → Sem (Nat × Nat))).run P w = .ok pl w
  | [], pl, e => by simp only [placesOf, Option.some.injEq] at e; subst e; rfl
  | f :: fs, pl, e => by
    simp only [placesOf] at e
    split at e
    · rename_i s l h1 h2
      simp only [Option.some.injEq] at e; subst e
      have := placesOf_sound F h2
      simp only [List.mapM_cons, Sem.run_bind, run_sz F h1, Result.andThen_ok, Sem.run_pure, this]
    · cases e
theorem buildR_sound (F : Fits p P) (hs : Sim P r h w) {t : Nat} {z v : V} {ps : List (Nat × V)} {ps' : Array (Nat × Value)} {h' : H} (hp : PartsR r ps ps'.toList) (hz : zeroOf p t = some z)
    (e : buildR p h z.cells ps (und p t) = some (v, h')) : Does P r h w (Instr.build t ps') v h' := by
  obtain ⟨i, z', hi, hiz, hzr, hnt⟩ := zeroOf_sound F r hz
  have hzc := hzr.cells hnt
  have hrz := run_zero hi hiz w
  cases hu : und p t with
  | none => rw [hu] at e; cases e
  | some u =>
    rw [hu] at e
    cases u <;> simp only [buildR] at e <;> try (cases e; done)
    case struct fs =>
      cases hpl : placesOf p fs.toList with
      | none => rw [hpl] at e; cases e
      | some pl =>
        rw [hpl] at e
        simp only [] at e
        cases hf : fillAll (nth pl) z.cells ps with
        | none => rw [hf] at e; cases e
        | some out =>
          rw [hf] at e
          simp only [aggR, Option.some.injEq, Prod.mk.injEq] at e
          obtain ⟨rfl, rfl⟩ := e
          obtain ⟨out', k1, k2⟩ := fillAll_sound (place' := fun i => pl.toArray[i]?) (fun i x hx => by rw [nth_eq] at hx; simpa using hx) hp hzc hf
          refine Does.same hs ⟨.agg out', ?_, .agg k2⟩
          have hm : (fs.mapM (fun f => do pure (f.offset, ← sizeOf f.type) : Field → Sem (Nat × Nat))).run P w = .ok pl.toArray w := by
            rw [Array.mapM_eq_mapM_toList]
            rw [Sem.run_map, placesOf_sound F hpl]; rfl
          simp only [Instr.build, Sem.run_bind, hrz, Result.andThen_ok, run_und F hu, hm, k1, Sem.run_pure]
    case array n el =>
      cases hse : szOf p el with
      | none => rw [hse] at e; cases e
      | some s =>
        rw [hse] at e
        simp only [] at e
        cases hf : fillAll (fun i => some (Nat.mul i s, s)) z.cells ps with
        | none => rw [hf] at e; cases e
        | some out =>
          rw [hf] at e
          simp only [aggR, Option.some.injEq, Prod.mk.injEq] at e
          obtain ⟨rfl, rfl⟩ := e
          obtain ⟨out', k1, k2⟩ := fillAll_sound (place' := fun i => some (i * s, s)) (fun i x hx => hx) hp hzc hf
          refine Does.same hs ⟨.agg out', ?_, .agg k2⟩
          simp only [Instr.build, Sem.run_bind, hrz, Result.andThen_ok, run_und F hu, run_sz F hse, k1, Sem.run_pure]
end Go.Am
