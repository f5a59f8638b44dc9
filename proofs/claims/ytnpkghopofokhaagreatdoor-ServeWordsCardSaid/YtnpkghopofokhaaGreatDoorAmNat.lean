/- A part of the abstract machine, or of a proof over it. -/
import Derived.Test.YtnpkghopofokhaaGreatDoorAmRange
import Derived.KernelRfl
import Derived.Lib.Bytealg
import Derived.Lib.MakeNoZero
namespace Go.Am
variable {p : Pg} {P : Program} {r : Ren} {h : H} {w : World}

/-! ### Functions of the library that have no text -/
theorem callFunc_ext {f : FuncId} {g : Func} {row : Array Value → Sem Value} {args : Array Value} {v : Value} {w' : World} (hg : P.funcs[f]? = some g) (hn : g.name ≠ "runtime.NumGoroutine") (hb : g.body = none) (hx : (Extern.findNext g).isNone = true) (hr : Extern.find g = some row)
    (e : (row args).run P w = .ok v w') : (callFunc f args).run P w = .ok (.value v) w' := by
  unfold callFunc
  have hx' : Extern.findNext g = none := by cases h : Extern.findNext g <;> simp_all
  simp [Sem.run_bind, hg, hn, hb, hx', hr, e]
theorem find_noEsc {g : Func} (hn : g.name = "internal/abi.NoEscape") : Extern.find g = some Extern.AbiNoEscape.same := by
  unfold Extern.find
  rw [hn]
  have h1 : List.lookup "internal/abi.NoEscape" Extern.allGenericRows = none := by kernel_rfl
  have h2 : List.lookup "internal/abi.NoEscape" Extern.allTypedRows = none := by kernel_rfl
  have h3 : List.lookup "internal/abi.NoEscape" Extern.allRows = some Extern.AbiNoEscape.same := by kernel_rfl
  simp only [h1, h2, h3]; rfl
theorem find_idx {g : Func} (hn : g.name = "internal/bytealg.IndexByteString") : Extern.find g = some Extern.BytealgIndexByte.indexByte := by
  unfold Extern.find
  rw [hn]
  have h1 : List.lookup "internal/bytealg.IndexByteString" Extern.allGenericRows = none := by kernel_rfl
  have h2 : List.lookup "internal/bytealg.IndexByteString" Extern.allTypedRows = none := by kernel_rfl
  have h3 : List.lookup "internal/bytealg.IndexByteString" Extern.allRows = some Extern.BytealgIndexByte.indexByte := by kernel_rfl
  simp only [h1, h2, h3]; rfl
theorem find_cnt {g : Func} (hn : g.name = "internal/bytealg.CountString") : Extern.find g = some Extern.BytealgCount.count := by
  unfold Extern.find
  rw [hn]
  have h1 : List.lookup "internal/bytealg.CountString" Extern.allGenericRows = none := by kernel_rfl
  have h2 : List.lookup "internal/bytealg.CountString" Extern.allTypedRows = none := by kernel_rfl
  have h3 : List.lookup "internal/bytealg.CountString" Extern.allRows = some Extern.BytealgCount.count := by kernel_rfl
  simp only [h1, h2, h3]; rfl
theorem find_mnz {g : Func} (hn : g.name = "internal/bytealg.MakeNoZero") : Extern.find g = some (Extern.BytealgMakeNoZero.makeNoZero g.params g.resultTypes) := by
  unfold Extern.find
  rw [hn]
  have h1 : List.lookup "internal/bytealg.MakeNoZero" Extern.allGenericRows = none := by kernel_rfl
  have h2 : List.lookup "internal/bytealg.MakeNoZero" Extern.allTypedRows = some Extern.BytealgMakeNoZero.makeNoZero := by kernel_rfl
  simp only [h1, h2]; rfl
theorem idxB_eq (c : Nat) (c' : UInt8) (hc : c'.toNat = c) : ∀ (l : List UInt8) (k : Nat), idxB c (l.map UInt8.toNat) k = .int .i64 (if Lib.indexByte l c' = -1 then -1 else Lib.indexByte l c' + k)
  | [], k => by simp [idxB, Lib.indexByte]
  | b :: l, k => by
    by_cases hb : b = c'
    · subst hb
      have h0 : Lib.indexByte (b :: l) b = 0 := by simp [Lib.indexByte]
      rw [h0]
      simp only [List.map_cons, idxB, beq_iff, decide_eq_true hc]
      simp
    · have hn : ¬ b.toNat = c := fun e => hb (UInt8.toNat_inj.1 (e.trans hc.symm))
      have h0 : Lib.indexByte (b :: l) c' = if Lib.indexByte l c' = -1 then -1 else Lib.indexByte l c' + 1 := by simp [Lib.indexByte, hb]
      rw [h0]
      simp only [List.map_cons, idxB, beq_iff, decide_eq_false hn]
      rw [idxB_eq c c' hc l (k.succ)]
      have hge := Lib.indexByte_ge l c'
      by_cases hm : Lib.indexByte l c' = -1
      · simp [hm]
      · rw [if_neg hm, if_neg hm, if_neg (by omega)]
        congr 1
        omega
theorem cntB_eq (c : Nat) (c' : UInt8) (hc : c'.toNat = c) : ∀ (l : List UInt8) (n : Nat), cntB c (l.map UInt8.toNat) n = n + Lib.countByte l c'
  | [], n => by simp [cntB, Lib.countByte]
  | b :: l, n => by
    simp only [List.map_cons, cntB, beq_iff]
    unfold Lib.countByte
    rw [List.count_cons]
    by_cases hb : b = c'
    · subst hb
      rw [decide_eq_true hc]
      simp only [beq_self_eq_true, if_true]
      rw [cntB_eq c b hc l n.succ]; unfold Lib.countByte; omega
    · have hn : ¬ b.toNat = c := fun e => hb (UInt8.toNat_inj.1 (e.trans hc.symm))
      rw [decide_eq_false hn, beq_eq_false_iff_ne.2 hb]
      simp only [Bool.false_eq_true, if_false]
      rw [cntB_eq c c' hc l n]; unfold Lib.countByte; omega
theorem toUInt8_toNat {c : Nat} (h : c < 256) : (Int.ofNat c).toNat.toUInt8.toNat = c := by
  simp [Nat.mod_eq_of_lt h]
theorem digits_int : ∀ (n t : Nat) (acc : Array Value), (∀ v ∈ acc, v.oneCell' = true) → ∀ v ∈ Extern.BytealgMakeNoZero.digits n t acc, v.oneCell' = true
  | 0, _, _, h => h
  | n + 1, t, acc, h => digits_int n (t / 256) _ fun v hv => by
    rcases Array.mem_push.1 hv with hv | rfl
    · exact h v hv
    · rfl
theorem VRs_any : ∀ (l : List Value), (∀ v ∈ l, v.oneCell' = true) → VRs r (List.replicate l.length .any) l
  | [], _ => .nil
  | v :: l, h => .cons (.any v (h v (by simp))) (VRs_any l fun x hx => h x (by simp [hx]))
theorem mnz_does (F : Fits p P) (hs : Sim P r h w) {ps : Array TypeId} {t e n : Nat} (hu : und p t = some (.slice e)) (hsz : szOf p e = some 1) (hn : n ≤ 281474976710656) :
    Does P r h w (Extern.BytealgMakeNoZero.makeNoZero ps #[t] #[.int .i64 n]) (.sl h.nx 0 n none) (h.newD (.cells (T.lf.puts 0 (List.replicate n .any)) (List.replicate n V.any).length e .no true)) := by
  have ht := und_sound F hu
  obtain ⟨i, hi, hi1⟩ := szOf_sound F hsz
  have hdef : Extern.BytealgMakeNoZero.makeNoZero ps #[t] #[.int .i64 n] =
      (do
        let .slice elem ← underlying t | stuck "bytealg.MakeNoZero: slice type expected"
        if (n : Int) < 0 || (n : Int) > 2 ^ 48 then runtimePanic (.error "makeslice: len out of range")
        let cap ← choose (.appendCap (n : Int).toNat 0 elem)
        askRoom cap
        let bytes ← choose (.extern "internal/bytealg.MakeNoZero.bytes" 0)
        let a ← Go.newRow elem (Extern.BytealgMakeNoZero.digits cap bytes #[])
        pure (.slice (some a) (n : Int).toNat cap)) := rfl
  generalize hcs : Extern.BytealgMakeNoZero.digits (grownCap w n 0 e) ((Question.extern "internal/bytealg.MakeNoZero.bytes" 0).cut (w.tape (w.drawn + 1) (.extern "internal/bytealg.MakeNoZero.bytes" 0))) #[] = cs
  have run : (Extern.BytealgMakeNoZero.makeNoZero ps #[t] #[.int .i64 n]).run P w = .ok (.slice (some ⟨w.heap.size, 0, none⟩) n cs.size) (w.drew.drew.alloc (.cells cs e)) := by
    rw [hdef, ← hcs]
    have h1 : ¬ (n : Int) < 0 := by omega
    have h2 : ¬ (281474976710656 : Int) < (n : Int) := by omega
    simp [run_underlying ht, h1, h2, Question.forced, Go.newRow, Lib.size_digits, grownCap]
  have hsize : cs.size = grownCap w n 0 e := by rw [← hcs, Lib.size_digits]; simp
  have hge : n ≤ cs.size := by rw [hsize]; exact grownCap_ge w n 0 e
  have hint : ∀ v ∈ cs, v.oneCell' = true := by rw [← hcs]; exact digits_int _ _ _ (by simp)
  have hlen : (cs.toList.take n).length = n := by rw [List.length_take, Array.length_toList]; omega
  have hc : VRs r (List.replicate n V.any) (cs.toList.take n) := by
    have := VRs_any (r := r) (cs.toList.take n) fun v hv => hint v (by simpa using List.mem_of_mem_take hv)
    rwa [hlen] at this
  refine ⟨_, _, _, run, hs.row (elem := e) (cs := List.replicate n .any) (cs' := cs.toList.take n) (rest := cs.toList.drop n) (opn := true) (frz := .no) (lo := 0) (hi := 0) (esz := 1) hc (fun hh => by cases hh) ⟨rfl, rfl⟩ (fun _ => ⟨i, hi, hi1⟩) (by
    rw [List.take_append_drop]; rfl) rfl rfl rfl, ?_⟩
  have := VR.slo (r := r.at h.nx ⟨w.heap.size, 0, (cs.toList.take n).length + (cs.toList.drop n).length, 1⟩) (l := h.nx) (o := 0) (n := n) (loc := ⟨w.heap.size, 0, (cs.toList.take n).length + (cs.toList.drop n).length, 1⟩) cs.size (Ren.at_same _ _ _)
    (by simp only []; rw [hlen, List.length_drop, Array.length_toList]; omega)
  exact this
theorem native_goes (F : Fits p P) (hs : Sim P r h w) {f : FuncId} {g : Func} (hg : p.fn.get f = some g) (hb : g.body = none) {args : List V} {args' : Array Value} (ha : VRs r args args'.toList) {v : V} {h' : H} (e : natives p g args h = some (v, h')) :
    Goes P (StepV P r h w v h') ((callFunc f args').run P w) := by
  obtain ⟨h1, h2, -⟩ := F.fn f g hg
  have hx := F.ext f g hg hb
  have fin : ∀ {row : Array Value → Sem Value}, Extern.find g = some row → Does P r h w (row args') v h' → Goes P (StepV P r h w v h') ((callFunc f args').run P w) := by
    intro row hr hd
    obtain ⟨v', w', r', k1, k2, k3⟩ := hd
    rw [callFunc_ext h1 h2 hb hx hr k1]
    exact ⟨r', k2, k3⟩
  have arr1 : ∀ {x : V}, args = [x] → ∃ x', args' = #[x'] ∧ VR r x x' := by
    intro x hx
    rw [hx] at ha
    cases args' with
    | mk l =>
      cases ha with
      | cons hv t => cases t; exact ⟨_, rfl, hv⟩
  have arr2 : ∀ {x y : V}, args = [x, y] → ∃ x' y', args' = #[x', y'] ∧ VR r x x' ∧ VR r y y' := by
    intro x y hx
    rw [hx] at ha
    cases args' with
    | mk l =>
      cases ha with
      | cons hv t => cases t with | cons hv2 t => cases t; exact ⟨_, _, rfl, hv, hv2⟩
  unfold natives at e
  split at e
  · rename_i hn
    unfold noEscN at e
    split at e
    · rename_i x
      simp only [Option.some.injEq, Prod.mk.injEq] at e
      obtain ⟨rfl, rfl⟩ := e
      obtain ⟨x', rfl, hv⟩ := arr1 rfl
      exact fin (find_noEsc hn) ⟨x', w, r, rfl, Step.refl hs, hv⟩
    · cases e
  · rename_i hn
    unfold idxN at e
    split at e
    · rename_i s c
      obtain ⟨x', y', rfl, hv, hv2⟩ := arr2 rfl
      simp only [blt_iff] at e
      by_cases hc : c < 256
      · rw [decide_eq_true hc] at e
        simp only [Option.some.injEq, Prod.mk.injEq] at e
        obtain ⟨rfl, rfl⟩ := e
        cases hv with
        | str s =>
        cases hv2
        refine fin (find_idx hn) ⟨_, w, r, Lib.run_indexByteString s (Int.ofNat c) w, Step.refl hs, ?_⟩
        rw [idxB_eq c _ (toUInt8_toNat hc)]
        have : (if Lib.indexByte s.data.toList (Int.ofNat c).toNat.toUInt8 = -1 then -1 else Lib.indexByte s.data.toList (Int.ofNat c).toNat.toUInt8 + ((0 : Nat) : Int)) = Lib.indexByte s.data.toList (Int.ofNat c).toNat.toUInt8 := by
          split <;> simp_all
        rw [this]
        exact .int _ _
      · rw [decide_eq_false hc] at e; cases e
    · cases e
  · rename_i hn
    unfold cntN at e
    split at e
    · rename_i s c
      obtain ⟨x', y', rfl, hv, hv2⟩ := arr2 rfl
      simp only [blt_iff] at e
      by_cases hc : c < 256
      · rw [decide_eq_true hc] at e
        simp only [forceNat_eq, Option.some.injEq, Prod.mk.injEq] at e
        obtain ⟨rfl, rfl⟩ := e
        cases hv with
        | str s =>
        cases hv2
        refine fin (find_cnt hn) ⟨_, w, r, Lib.run_countString s (Int.ofNat c) w, Step.refl hs, ?_⟩
        rw [cntB_eq c _ (toUInt8_toNat hc), Nat.zero_add]
        exact .int _ _
      · rw [decide_eq_false hc] at e; cases e
    · cases e
  · rename_i hn
    unfold mnzN at e
    split at e
    · rename_i n
      split at e
      · rename_i t hts
        split at e
        · rename_i e1 hu
          split at e
          · rename_i hsz
            simp only [ble_iff] at e
            by_cases hc : n ≤ 281474976710656
            · rw [decide_eq_true hc] at e
              simp only [newRow_eq, Option.some.injEq, Prod.mk.injEq] at e
              obtain ⟨rfl, rfl⟩ := e
              obtain ⟨x', rfl, hv⟩ := arr1 rfl
              cases hv
              have hrt : g.resultTypes = #[t] := by
                cases hgr : g.resultTypes with
                | mk l => rw [hgr] at hts; simp only at hts; rw [hts]
              have hrow := find_mnz hn
              rw [hrt] at hrow
              exact fin hrow (mnz_does F hs hu hsz hc)
            · rw [decide_eq_false hc] at e; cases e
          · cases e
        · cases e
      · cases e
    · cases e
  · cases e
end Go.Am
