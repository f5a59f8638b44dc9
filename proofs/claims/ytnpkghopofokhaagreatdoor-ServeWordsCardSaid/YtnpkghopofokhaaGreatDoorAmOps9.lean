/- A part of the abstract machine, or of a proof over it. -/
import Derived.Test.YtnpkghopofokhaaGreatDoorAmOps8
namespace Go.Am
variable {p : Pg} {P : Program} {r : Ren} {h : H} {w : World}

/-! ### Ranges -/
theorem newPtr_does (hs : Sim P r h w) {o : Obj} {m : Go.Obj} (hR : ObjR P (r.at h.nx ⟨w.heap.size, 0, 0, 0⟩) ⟨w.heap.size, 0, 0, 0⟩ o m) :
    Does P r h w (do pure (.pointer (some ⟨← newObj m, 0, none⟩))) (.ptr h.nx 0) (h.newD o) := by
  refine ⟨_, { w with heap := w.heap.push m }, r.at h.nx ⟨w.heap.size, 0, 0, 0⟩, by simp only [Sem.run_bind, run_newObj, Result.andThen_ok, Sem.run_pure]; rfl, hs.new rfl rfl hR rfl rfl rfl, ?_⟩
  have := VR.ptr (r := r.at h.nx ⟨w.heap.size, 0, 0, 0⟩) (l := h.nx) (o := 0) (Ren.at_same _ _ _)
  exact this
theorem rangeR_sound (F : Fits p P) (hs : Sim P r h w) {t : Nat} {x v : V} {x' : Value} {h' : H} (hx : VR r x x') (e : rangeR h x (und p t) = some (v, h')) : Does P r h w (Instr.range t x') v h' := by
  cases hu : und p t with
  | none => rw [hu] at e; cases x <;> simp [rangeR] at e
  | some u =>
    rw [hu] at e
    unfold rangeR at e
    split at e
    · cases hx with | str bs =>
      rename_i heq; cases heq
      simp only [H.new_eq, mkPtr, Option.some.injEq, Prod.mk.injEq] at e
      obtain ⟨rfl, rfl⟩ := e
      have := newPtr_does (P := P) hs (o := .strI (bs.data.toList.map UInt8.toNat) 0) (m := .stringIter bs 0) ⟨bs, rfl, by simp, rfl⟩
      obtain ⟨v', w', r', h1, h2, h3⟩ := this
      refine ⟨v', w', r', ?_, h2, h3⟩
      rw [← h1]
      simp [Instr.range, run_und F hu]
    · cases hx
      rename_i heq; cases heq
      simp only [H.new_eq, mkPtr, Option.some.injEq, Prod.mk.injEq] at e
      obtain ⟨rfl, rfl⟩ := e
      obtain ⟨v', w', r', h1, h2, h3⟩ := newPtr_does (P := P) hs (o := .mapI none 0 [] 0) (m := .mapIter none 0 #[] 0) ⟨none, rfl, rfl, rfl⟩
      refine ⟨v', w', r', ?_, h2, h3⟩
      rw [← h1]
      simp [Instr.range, run_und F hu]
    · cases hx with | map hr =>
      rename_i m _ _ heq loc; cases heq
      split at e
      · rename_i es clock hl
        simp only [H.new_eq, mkPtr, Option.some.injEq, Prod.mk.injEq] at e
        obtain ⟨rfl, rfl⟩ := e
        obtain ⟨hlt, loc', mo, k1, k2, en, rfl, k4⟩ := hs.obj m _ hl
        rw [hr] at k1; cases k1
        obtain ⟨v', w', r', h1, h2, h3⟩ := newPtr_does (P := P) hs (o := .mapI (some m) clock [] clock) (m := .mapIter (some loc.blk) clock #[] clock)
          ⟨some loc.blk, rfl, rfl, loc, by rw [Ren.at_ne _ _ (by omega)]; exact hr, rfl⟩
        refine ⟨v', w', r', ?_, h2, h3⟩
        rw [← h1]
        simp [Instr.range, run_und F hu, run_obj_map k2]
      · cases e
    · cases e
theorem run_obj_str {b : Nat} {s : ByteArray} {pos : Nat} (hb : w.heap[b]? = some (.stringIter s pos)) : (getObj b).run P w = .ok (.stringIter s pos) w := by simp [getObj, Sem.run, hb]
theorem run_put_str {b : Nat} {s : ByteArray} {pos : Nat} (o : Go.Obj) (hb : w.heap[b]? = some (.stringIter s pos)) : (setObj b o).run P w = .ok () { w with heap := w.heap.setIfInBounds b o } := by simp [setObj, Sem.run, hb]
theorem run_obj_iter {b : Nat} {m : Option Nat} {s c : Nat} {seen : Array Nat} (hb : w.heap[b]? = some (.mapIter m s seen c)) : (getObj b).run P w = .ok (.mapIter m s seen c) w := by simp [getObj, Sem.run, hb]
theorem run_put_iter {b : Nat} {m : Option Nat} {s c : Nat} {seen : Array Nat} (o : Go.Obj) (hb : w.heap[b]? = some (.mapIter m s seen c)) : (setObj b o).run P w = .ok () { w with heap := w.heap.setIfInBounds b o } := by simp [setObj, Sem.run, hb]
theorem run_choose_one (w : World) : ∃ d, (choose (.mapNext 1)).run P w = .ok 0 { w with drawn := d } := by
  rw [run_choose]
  split
  · exact ⟨w.drawn, rfl⟩
  · refine ⟨w.drawn + 1, ?_⟩
    have : Question.cut (.mapNext 1) (w.tape w.drawn (.mapNext 1)) = 0 := by simp [Question.cut, Nat.mod_one]
    rw [this]
theorem EntsR.nil_eq {l' : List MapEntry} (h : EntsR r [] l') : l' = [] := by cases h; rfl
theorem EntsR.one {k v : V} {b : Nat} {l' : List MapEntry} (h : EntsR r [(k, v, b)] l') : ∃ e, l' = [e] ∧ VR r k e.key ∧ VR r v e.val ∧ e.born = b := by
  cases h with
  | cons hk hv t => cases t; exact ⟨_, rfl, hk, hv, rfl⟩
theorem goInt_nat (n : Nat) : goInt (n : Int) = .int .i64 (Int.ofNat n) := rfl
theorem nextA_sound (hs : Sim P r h w) {x v : V} {x' : Value} {isStr : Bool} {ty : Nat} {h' : H} (hx : VR r x x') (e : nextA x isStr h = some (v, h')) : Does P r h w (Instr.next x' isStr ty) v h' := by
  unfold nextA at e
  split at e
  · rename_i l
    cases hx with | ptr hr =>
    rename_i loc
    split at e
    · rename_i s pos hl
      obtain ⟨-, loc', mo, k1, k2, bs, rfl, k4, k6⟩ := hs.obj l _ hl
      rw [hr] at k1; cases k1
      rw [k6]
      have hbl : loc.blk < w.heap.size := (Array.getElem?_eq_some_iff.1 k2).1
      split at e
      · simp only [Option.some.injEq, Prod.mk.injEq] at e
        obtain ⟨rfl, rfl⟩ := e
        have hge : ¬ pos < bs.size := by
          have := congrArg List.length k4
          simp only [List.length_nil, List.length_drop, List.length_map, Array.length_toList] at this
          have hsz : bs.size = bs.data.size := rfl
          omega
        exact Does.same hs ⟨.tuple #[.bool false], by simp [Instr.next, run_obj_str k2, hge], .tup (.cons (.bool false) .nil)⟩
      · rename_i hne
        have hlt : pos < bs.size := by
          rcases Nat.lt_or_ge pos bs.size with hh | hh
          · exact hh
          · exfalso
            have hsz : bs.size = bs.data.size := rfl
            rw [List.drop_eq_nil_of_le (by rw [List.length_map, Array.length_toList]; omega)] at k4
            exact hne k4
        have hd := decR_sound bs pos hlt
        rw [← k4] at hd
        rcases hdr : decR s with ⟨c, wd⟩
        rw [hdr] at e hd
        simp only [forceNat_eq, forceL_eq, H.set_eq, dropL_eq, Option.some.injEq, Prod.mk.injEq] at e
        obtain ⟨rfl, rfl⟩ := e
        refine ⟨.tuple #[.bool true, goInt pos, .int .i32 c], { w with heap := w.heap.setIfInBounds loc.blk (.stringIter bs (pos + wd)) }, r, ?_, ?_, .tup (.cons (.bool true) (.cons (.int _ _) (.cons (.int _ _) .nil)))⟩
        · simp [Instr.next, run_obj_str k2, hlt, hd, run_put_str _ k2]
        · refine hs.set hl (fun _ _ hh => by cases hh) hr (by simp) (m' := .stringIter bs (pos + wd)) (by simp [hbl]) (fun b hb => by simp [Array.getElem?_setIfInBounds_ne (Ne.symm hb)]) ⟨bs, rfl, ?_, k6⟩ rfl rfl rfl
          rw [k4, List.drop_drop]
    · rename_i since seen last hl
      obtain ⟨-, loc', mo, k1, k2, mm, rfl, k6, k5⟩ := hs.obj l _ hl
      rw [hr] at k1; cases k1
      simp only [] at k5
      subst k5
      rw [k6]
      simp only [Option.some.injEq, Prod.mk.injEq] at e
      obtain ⟨rfl, rfl⟩ := e
      exact Does.same hs ⟨.tuple #[.bool false], by simp [Instr.next, run_obj_iter k2], .tup (.cons (.bool false) .nil)⟩
    · rename_i m since seen last hl
      obtain ⟨-, loc', mo, k1, k2, mm, rfl, k6, loc2, k7, rfl⟩ := hs.obj l _ hl
      rw [hr] at k1; cases k1
      rw [k6]
      have hbl : loc.blk < w.heap.size := (Array.getElem?_eq_some_iff.1 k2).1
      split at e
      · rename_i es clock hm
        obtain ⟨-, loc3, mo, q1, q2, en, rfl, q4⟩ := hs.obj m _ hm
        rw [k7] at q1; cases q1
        split at e
        · simp only [Option.some.injEq, Prod.mk.injEq] at e
          obtain ⟨rfl, rfl⟩ := e
          have hen : en = #[] := by apply Array.ext'; exact q4.nil_eq
          subst hen
          obtain ⟨d, hd⟩ := run_choose_one (P := P) w
          refine ⟨.tuple #[.bool false], _, r, ?_, Step.drew hs d, .tup (.cons (.bool false) .nil)⟩
          simp [Instr.next, run_obj_iter k2, run_obj_map q2, -run_choose, hd]
        · obtain ⟨en1, hen, hk, hv, hb⟩ := q4.one
          have hen : en = #[en1] := by apply Array.ext'; simpa using hen
          subst hen
          rename_i k v0 b
          subst hb
          split at e
          · rename_i seen'
            simp only [blt_iff] at e
            by_cases hbs : en1.born < since
            · rw [decide_eq_true hbs] at e
              simp only [H.set_eq, Option.some.injEq, Prod.mk.injEq] at e
              obtain ⟨rfl, rfl⟩ := e
              obtain ⟨d, hd⟩ := run_choose_one (P := P) w
              have k2' : ({ w with drawn := d } : World).heap[loc.blk]? = some (.mapIter (some loc2.blk) since #[] last) := k2
              refine ⟨.tuple #[.bool true, en1.key, en1.val], { w with drawn := d, heap := w.heap.setIfInBounds loc.blk (.mapIter (some loc2.blk) since #[en1.born] clock) }, r, ?_, ?_, .tup (.cons (.bool true) (.cons hk (.cons hv .nil)))⟩
              · have hb'' : ¬ since ≤ en1.born := by omega
                simp [Instr.next, run_obj_iter k2, run_obj_map q2, -run_choose, hd, hbs, hb'', run_put_iter _ k2']
              · refine (Step.drew hs d).trans ((Step.drew hs d).sim.set hl (fun _ _ hh => by cases hh) hr (by simp) (m' := .mapIter (some loc2.blk) since #[en1.born] clock) (by simp [hbl]) (fun b hb => by simp [Array.getElem?_setIfInBounds_ne (Ne.symm hb)]) ⟨some loc2.blk, rfl, k6, loc2, k7, rfl⟩ rfl rfl rfl)
            · rw [decide_eq_false hbs] at e; cases e
          · rename_i b'
            simp only [beq_iff, blt_iff] at e
            by_cases hbb : en1.born = b' ∧ en1.born < last
            · obtain ⟨rfl, hbl'⟩ := hbb
              simp only [decide_true, decide_eq_true hbl', Bool.and_self, Option.some.injEq, Prod.mk.injEq] at e
              obtain ⟨rfl, rfl⟩ := e
              obtain ⟨d, hd⟩ := run_choose_one (P := P) w
              refine ⟨.tuple #[.bool false], _, r, ?_, Step.drew hs d, .tup (.cons (.bool false) .nil)⟩
              simp [Instr.next, run_obj_iter k2, run_obj_map q2, -run_choose, hd, hbl']
            · have : (decide (en1.born = b') && decide (en1.born < last)) = false := by
                by_cases h1 : en1.born = b'
                · have h2 : ¬ en1.born < last := fun hh => hbb ⟨h1, hh⟩
                  simp [h1]; omega
                · simp [h1]
              rw [this] at e; cases e
          · cases e
        · cases e
      · cases e
    · cases e
  · cases e
end Go.Am
