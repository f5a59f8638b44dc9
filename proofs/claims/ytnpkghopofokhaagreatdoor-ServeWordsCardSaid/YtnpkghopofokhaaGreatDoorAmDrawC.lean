/- A part of the abstract machine, or of a proof over it. -/
import Derived.Test.YtnpkghopofokhaaGreatDoorAmDrawB
namespace Go.Am
variable {p : Pg} {P : Program} {r : Ren} {h : H} {w : World}

/-! ### New variables that are laid ahead of their turn -/
theorem objR_row {blk : Nat} {elem : Nat} {cs : List V} {cs' : List Value} (hc : VRs r cs cs') : ObjR P r ⟨blk, 0, cs'.length, 0⟩ (.cells (T.lf.puts 0 cs) cs.length elem .no false) (.cells cs'.toArray elem) := by
  refine ⟨_, 0, 0, rfl, fun i v hv => ?_, by rw [hc.length]; exact Nat.le_refl _, by simp, fun _ => ⟨rfl, hc.length.symm⟩, ⟨rfl, rfl⟩, fun hh => by cases hh⟩
  rw [T.get_puts] at hv
  by_cases hi' : 0 ≤ i ∧ i < 0 + cs.length
  · rw [if_pos hi'] at hv
    obtain ⟨v', h5, h6⟩ := hc.get hv
    exact ⟨by omega, v', by simpa using h5, h6⟩
  · rw [if_neg hi', T.get_lf] at hv; cases hv
theorem Sim.absorb (hs : Sim P r h w) {b : Nat} {o : Obj} {loc : Loc} {m : Go.Obj} (hb : r b = none) (hbn : b < h.nx) (hg : P.globals.size ≤ b) (hu : unowned r h loc.blk) (hm : w.heap[loc.blk]? = some m) (hR : ObjR P (r.at b loc) loc o m) :
    Sim P (r.at b loc) (h.setD b o) w := by
  have hle : r.le (r.at b loc) := Ren.le_at loc hb
  have hlive : ∀ x, x ≠ b → (h.setD b o).get x = h.get x := fun x hx => by rw [H.get_setD, if_neg hx]
  refine ⟨fun x ox hx => ?_, fun x y lx ly hx hy rx ry e => ?_, fun x hx => ?_, hs.gn, fun g hg' => ?_⟩
  · by_cases hx' : x = b
    · subst hx'; rw [H.get_setD, if_pos rfl] at hx; cases hx
      exact ⟨hbn, loc, m, Ren.at_same _ _ _, hm, hR⟩
    · rw [hlive x hx'] at hx
      obtain ⟨a, lx, mx, c, d, f⟩ := hs.obj x ox hx
      exact ⟨a, lx, mx, hle _ _ c, d, f.mono hle⟩
  · by_cases hx' : x = b
    · by_cases hy' : y = b
      · rw [hx', hy']
      · exfalso
        subst hx'; rw [Ren.at_same] at rx; cases rx
        rw [hlive y hy'] at hy; rw [Ren.at_ne r loc hy'] at ry
        exact hu y ly hy ry e.symm
    · by_cases hy' : y = b
      · exfalso
        subst hy'; rw [Ren.at_same] at ry; cases ry
        rw [hlive x hx'] at hx; rw [Ren.at_ne r loc hx'] at rx
        exact hu x lx hx rx e
      · rw [hlive x hx'] at hx; rw [hlive y hy'] at hy; rw [Ren.at_ne r loc hx'] at rx; rw [Ren.at_ne r loc hy'] at ry
        exact hs.inj x y lx ly hx hy rx ry e
  · have : x ≠ b := fun e => by subst e; exact absurd hx (by rw [H.nx_setD]; omega)
    rw [Ren.at_ne r loc this]; exact hs.fresh x hx
  · rw [Ren.at_ne r loc (by omega)]; exact hs.gl g hg'
theorem Step.absorb {r0 : Ren} {h0 : H} {w0 : World} (hs0 : Sim P r0 h0 w0) (hst : Step P r0 h0 w0 r h w) {b : Nat} {o : Obj} {loc : Loc} {m : Go.Obj} (hb : r b = none) (hb0 : h0.nx ≤ b) (hbn : b < h.nx) (hw0 : w0.heap.size ≤ loc.blk) (hu : unowned r h loc.blk) (hm : w.heap[loc.blk]? = some m)
    (hR : ObjR P (r.at b loc) loc o m) : Step P r0 h0 w0 (r.at b loc) (h.setD b o) w := by
  refine ⟨fun l hl => by rw [Ren.at_ne r loc (by omega)]; exact hst.ext l hl, hst.nx, hst.sim.absorb hb hbn (Nat.le_trans hs0.gn hb0) hu hm hR, hst.size, fun k hk hku => ⟨(hst.kept k hk hku).1, fun x lx hx rx => ?_⟩, fun l vs e lc hl hr => ?_, hst.os, hst.tape, hst.output⟩
  · by_cases hx' : x = b
    · subst hx'; rw [Ren.at_same] at rx; cases rx; omega
    · rw [H.get_setD, if_neg hx'] at hx; rw [Ren.at_ne r loc hx'] at rx
      exact (hst.kept k hk hku).2 x lx hx rx
  · have hlb : l ≠ b := by have := (hs0.obj l _ hl).1; omega
    obtain ⟨a1, a2, a3⟩ := hst.glob l vs e lc hl hr
    exact ⟨by rw [H.get_setD, if_neg hlb]; exact a1, by rw [Ren.at_ne r loc hlb]; exact a2, a3⟩
theorem Step.push {r0 : Ren} {h0 : H} {w0 : World} (hst : Step P r0 h0 w0 r h w) (m : Go.Obj) : Step P r0 h0 w0 r h { w with heap := w.heap.push m } := by
  have hold : ∀ b, b < w.heap.size → (w.heap.push m)[b]? = w.heap[b]? := fun b hb => by rw [Array.getElem?_push, if_neg (by omega)]
  refine ⟨hst.ext, hst.nx, ⟨fun l o hl => ?_, hst.sim.inj, hst.sim.fresh, hst.sim.gn, hst.sim.gl⟩, by simp only [Array.size_push]; exact Nat.le_succ_of_le hst.size, fun k hk hku => ⟨?_, (hst.kept k hk hku).2⟩, fun l vs e lc hl hr => ?_, hst.os, hst.tape, hst.output⟩
  · obtain ⟨a, loc, mm, b, c, d⟩ := hst.sim.obj l o hl
    exact ⟨a, loc, mm, b, by simp only []; rw [hold _ (Array.getElem?_eq_some_iff.1 c).1]; exact c, d⟩
  · show (w.heap.push m)[k]? = _
    rw [hold k (Nat.lt_of_lt_of_le hk hst.size)]; exact (hst.kept k hk hku).1
  · obtain ⟨a1, a2, a3⟩ := hst.glob l vs e lc hl hr
    refine ⟨a1, a2, ?_⟩
    show (w.heap.push m)[lc.blk]? = _
    rw [hold _ (hst.sim.blk_lt (by rw [a1]; simp) a2)]; exact a3

section
variable {cal : Cal} {ops : Array Oper} {b0 : Nat} {env0 env1 : T V} {h0 h1 : H} {E : Nat → T V} {hs : Nat → H} {fb : Nat → Nat} {val : Nat → V}

/-- What stands of a drawn region. -/
structure Reg (p : Pg) (P : Program) (cal : Cal) (ops : Array Oper) (r0 : Ren) (h0 : H) (w0 : World) (a0 : Act) (E : Nat → T V) (hs : Nat → H) (fb : Nat → Nat) (val : Nat → V) : Prop where
  sim0 : Sim P r0 h0 w0
  op : ∀ i o, ops.toList[i]? = some o → E (i + 1) = putE (E i) o.dst (val i) ∧ TrOp p cal ops.toList E hs fb i o (val i)
  fl : ∀ f o, ops.toList[f]? = some o → isFlt o.op = true → h0.nx ≤ fb f ∧ fb f < (hs 0).nx
  ne : ∀ f f' o o', ops.toList[f]? = some o → ops.toList[f']? = some o' → isFlt o.op = true → isFlt o'.op = true → f ≠ f' → fb f ≠ fb f'
  ok : opsOk P.globals.size a0.tmps.size ops.toList = true
  back : backsAll ops.toList 0 = true
  chain : ∀ i o, ops.toList[i]? = some o → isEff p o.op = true → isFlt o.op = false → ∀ e ∈ effIdx p ops.toList 0, e < i → (nthD (ancs ops.toList []) i).testBit e = true
  flt : ∀ i f o, ops.toList[f]? = some o → isFlt o.op = true → (nthD (ancs ops.toList []) i).testBit f = true → ∀ e ∈ effIdx p ops.toList 0, e < f → (nthD (ancs ops.toList []) i).testBit e = true
  apart : ∀ k k' o q, k < k' → ops.toList[k]? = some o → ops.toList[k']? = some q → Meets ops.toList o q → (nthD (ancs ops.toList []) k').testBit k = true
/-- A new variable that was laid ahead of its turn. -/
structure FltAt (p : Pg) (o : Oper) (r : Ren) (h : H) (w0 w : World) (a : Act) (blk : Nat) : Prop where
  lo : w0.heap.size ≤ blk
  hi : blk < w.heap.size
  un : unowned r h blk
  cells : ∀ t z, o.op = .alloc t → zeroOf p t = some z → ∃ cs : List Value, w.heap[blk]? = some (.cells cs.toArray t) ∧ VRs r z.cells cs
  dst : ∀ d, o.dst = some d → a.tmps.getD d Go.undef = .pointer (some ⟨blk, 0, none⟩)
structure Inv (p : Pg) (P : Program) (ops : Array Oper) (r0 : Ren) (h0 : H) (w0 : World) (a0 : Act) (E : Nat → T V) (hs : Nat → H) (fb : Nat → Nat) (S : Nat → Prop) (j : Nat) (B : Nat → Nat) (r : Ren) (a : Act) (w : World) : Prop where
  jle : j ≤ (effIdx p ops.toList 0).length
  pre : ∀ k e, k < j → (effIdx p ops.toList 0)[k]? = some e → S e
  late : ∀ k e, j ≤ k → (effIdx p ops.toList 0)[k]? = some e → S e → ∃ o, ops.toList[e]? = some o ∧ isFlt o.op = true
  step : Step P r0 h0 w0 r (hs j) w
  nx : (hs 0).nx ≤ (hs j).nx
  nr : ∀ f o, ops.toList[f]? = some o → isFlt o.op = true → j ≤ rank p ops.toList f → r (fb f) = none
  x : ∀ f o, ops.toList[f]? = some o → isFlt o.op = true → S f → j ≤ rank p ops.toList f → FltAt p o r (hs j) w0 w a (B f)
  xinj : ∀ f f' o o', ops.toList[f]? = some o → ops.toList[f']? = some o' → isFlt o.op = true → isFlt o'.op = true → S f → S f' → j ≤ rank p ops.toList f → j ≤ rank p ops.toList f' → B f = B f' → f = f'
  dep : ∀ k f o, S k → ops.toList[f]? = some o → isFlt o.op = true → S f → j ≤ rank p ops.toList f → (nthD (ancs ops.toList []) k).testBit f = false
  env : ∀ t i, i ≤ ops.toList.length → (∀ k o, ops.toList[k]? = some o → o.dst = some t → (S k ↔ k < i)) → (∀ f o, ops.toList[f]? = some o → isFlt o.op = true → S f → j ≤ rank p ops.toList f → o.dst ≠ some t) → VR r (opdAt (E i) t) (a.tmps.getD t Go.undef)
  size : a.tmps.size = a0.tmps.size
  defers : a.defers = a0.defers
variable {r0 : Ren} {w0 : World} {a0 : Act}
theorem opdAt_putE_self {env : T V} {d : Nat} {v : V} : opdAt (putE env (some d) v) d = v := by simp [opdAt, putE, T.get_put]
theorem opdAt_putE_ne {env : T V} {dst : Option Nat} {t : Nat} {v : V} (h : dst ≠ some t) : opdAt (putE env dst v) t = opdAt env t := by
  cases dst with
  | none => rfl
  | some d =>
    have : t ≠ d := fun e => h (by rw [e])
    simp [opdAt, putE, T.get_put, this]
theorem Reg.keep (G : Reg p P cal ops r0 h0 w0 a0 E hs fb val) {t : Nat} : ∀ (y x : Nat), x ≤ y → y ≤ ops.toList.length → (∀ k o, x ≤ k → k < y → ops.toList[k]? = some o → o.dst ≠ some t) → opdAt (E y) t = opdAt (E x) t
  | 0, x, hx, _, _ => by rw [Nat.le_zero.1 hx]
  | y + 1, x, hx, hy, hh => by
    rcases Nat.eq_or_lt_of_le hx with rfl | hlt
    · rfl
    · have ho : ops.toList[y]? = some ops.toList[y] := by simp
      rw [(G.op y _ ho).1, opdAt_putE_ne (hh y _ (by omega) (by omega) ho)]
      exact G.keep y x (by omega) (by omega) fun k o h1 h2 => hh k o h1 (by omega)
theorem Reg.valAt (G : Reg p P cal ops r0 h0 w0 a0 E hs fb val) {i t : Nat} {o : Oper} (ho : ops.toList[i]? = some o) (hd : o.dst = some t) : opdAt (E (i + 1)) t = val i := by
  rw [(G.op i o ho).1, hd, opdAt_putE_self]
theorem Inv.absorb (G : Reg p P cal ops r0 h0 w0 a0 E hs fb val) {S : Nat → Prop} {B : Nat → Nat} {a : Act} : ∀ (m j : Nat) (r : Ren) (w : World), (effIdx p ops.toList 0).length - j = m → Inv p P ops r0 h0 w0 a0 E hs fb S j B r a w →
    ∃ j' r', Inv p P ops r0 h0 w0 a0 E hs fb S j' B r' a w ∧ ∀ e, (effIdx p ops.toList 0)[j']? = some e → ¬ S e := by
  intro m
  induction m with
  | zero =>
    intro j r w hm I
    exact ⟨j, r, I, fun e he => by have := (List.getElem?_eq_some_iff.1 he).1; omega⟩
  | succ m ih =>
    intro j r w hm I
    by_cases hx : ∃ e, (effIdx p ops.toList 0)[j]? = some e ∧ S e
    · obtain ⟨f, hf, hSf⟩ := hx
      obtain ⟨o, ho, hfl⟩ := I.late j f (Nat.le_refl _) hf hSf
      have hrk : rank p ops.toList f = j := es_inj (es_rank ho (isFlt_eff hfl)) hf
      have F := I.x f o ho hfl hSf (by omega)
      have hnr := I.nr f o ho hfl (by omega)
      obtain ⟨hfl1, hfl2⟩ := G.fl f o ho hfl
      have hT := (G.op f o ho).2
      generalize hv : val f = v at hT
      cases hT with
      | skip hf' => rw [hfl] at hf'; cases hf'
      | eff hf' => rw [hfl] at hf'; cases hf'
      | pure hf' => rw [hfl] at hf'; cases hf'
      | flt hf' hg hop hz hh =>
      rename_i t z
      rw [hrk] at hh
      obtain ⟨cs, hcs1, hcs2⟩ := F.cells t z hop hz
      let loc : Loc := ⟨B f, 0, cs.length, 0⟩
      have hle : r.le (r.at (fb f) loc) := Ren.le_at loc hnr
      have hst : Step P r0 h0 w0 (r.at (fb f) loc) (hs (j + 1)) w := by
        rw [hh]
        exact I.step.absorb G.sim0 (loc := loc) hnr hfl1 (Nat.lt_of_lt_of_le hfl2 I.nx) F.lo F.un hcs1 (objR_row (hcs2.mono hle))
      refine ih (j + 1) (r.at (fb f) loc) w (by omega) ⟨?_, fun k e hk he => ?_, fun k e hk => I.late k e (by omega), hst, ?_, fun f' o' ho' hf' hk => ?_, fun f' o' ho' hf' hS' hk => ?_, fun f' f'' o' o'' h1 h2 h3 h4 h5 h6 h7 h8 => I.xinj f' f'' o' o'' h1 h2 h3 h4 h5 h6 (by omega) (by omega), fun k f' o' hk h1 h2 h3 h4 => I.dep k f' o' hk h1 h2 h3 (by omega), fun t' i hi hwr hX => ?_, I.size, I.defers⟩
      · exact (List.getElem?_eq_some_iff.1 hf).1
      · rcases Nat.lt_or_ge k j with hlt | hge
        · exact I.pre k e hlt he
        · have : k = j := by omega
          subst this; rw [hf] at he; cases he; exact hSf
      · rw [hh]; exact I.nx
      · have hne : f' ≠ f := fun e => by subst e; omega
        rw [Ren.at_ne r loc (G.ne f' f o' o ho' ho hf' hfl hne)]
        exact I.nr f' o' ho' hf' (by omega)
      · have hne : f' ≠ f := fun e => by subst e; omega
        have F' := I.x f' o' ho' hf' hS' (by omega)
        refine ⟨F'.lo, F'.hi, fun x lx hx hrx => ?_, fun t' z' h1 h2 => ?_, F'.dst⟩
        · rw [hh, H.get_setD] at hx
          by_cases hxb : x = fb f
          · subst hxb
            rw [Ren.at_same] at hrx; cases hrx
            exact fun e => hne (I.xinj f' f o' o ho' ho hf' hfl hS' hSf (by omega) (by omega) e.symm)
          · rw [if_neg hxb] at hx; rw [Ren.at_ne r loc hxb] at hrx
            exact F'.un x lx hx hrx
        · obtain ⟨cs', k1, k2⟩ := F'.cells t' z' h1 h2
          exact ⟨cs', k1, k2.mono hle⟩
      · by_cases hd : o.dst = some t'
        · have hfi : f < i := (hwr f o ho hd).1 hSf
          have hkeep : opdAt (E i) t' = val f := by
            rw [G.keep i (f + 1) hfi hi fun k ok h1 h2 hok hdk => ?_, G.valAt ho hd]
            have hSk := (hwr k ok hok hdk).2 h2
            have := G.apart f k o ok (by omega) ho hok (.inl ⟨t', hd, by simp [namesOf, dstL, hdk]⟩)
            rw [I.dep k f o hSk ho hfl hSf (by omega)] at this; cases this
          rw [hkeep, hv, F.dst t' hd]
          exact VR.ptr (loc := loc) (Ren.at_same _ _ _)
        · refine (I.env t' i hi hwr fun f' o' h1 h2 h3 h4 => ?_).mono hle
          by_cases hne : f' = f
          · subst hne; rw [ho] at h1; cases h1; exact hd
          · have : rank p ops.toList f' ≠ j := fun e => hne (by
              have h5 := es_rank (p := p) h1 (isFlt_eff h2); rw [e, hf] at h5; exact (Option.some.inj h5).symm)
            exact hX f' o' h1 h2 h3 (by omega)
    · exact ⟨j, r, I, fun e he hS => hx ⟨e, he, hS⟩⟩
end
end Go.Am
