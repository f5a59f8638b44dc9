/- What a leader, and a follower, that nobody made answers. -/
import Derived.Test.YtajnbfaalonocaaGreatDoorS1Tab
import Derived.Test.YtajnbfaalonocaaGreatDoorAmRow
namespace Go.Am
open Go.Proofs Go.RowKit
set_option maxRecDepth 100000
theorem sizeG1 : Tryz.prog.globals.size = 8 := by kernel_rfl
theorem gl8 {x : Am.Loc} : ∀ g, g < Tryz.prog.globals.size → ∃ loc, Am.ren1 8 x g = some loc ∧ loc.blk = g ∧ loc.off = 0 := fun g hg => by
  rw [sizeG1] at hg; exact ⟨_, Am.ren1_lt hg, rfl, rfl⟩
noncomputable def kp (f : Nat) (zs : List V) (e : Nat) (ws : List V) (v : V) (nx' : Nat) : Ent := { f := f, args := .ptr 8 0 :: ws, nx := 9, part := mkT [(8, .glob (T.lf.puts 0 zs) e)], v := v, out := .lf, nx' := nx' }
noncomputable def kn (f : Nat) (ws : List V) (v : V) (nx' : Nat) : Ent := { f := f, args := .nilp :: ws, nx := 9, part := mkT [], v := v, out := .lf, nx' := nx' }
theorem kp_calls {f : Nat} {zs : List V} {e : Nat} {ws : List V} {v : V} {nx' : Nat} (h : runE [] pg 100000 200 (kp f zs e ws v nx') = true) {g : Func} (hg : pg.fn.get f = some g) (hb : g.body.isSome = true) {w : World} {b : Nat} {cs : Array Value} {fr : Nat × Nat} (hw : w.heap[b]? = some (.cells cs e fr)) (hz : ∀ r, VRs r zs cs.toList) {ws' : List Value} (ha : ∀ r, VRs r ws ws') :
    Calls Tryz.prog f (Value.pointer (some ⟨b, 0, none⟩) :: ws').toArray w fun en w' => ∃ v', en = .returned v' ∧ (∃ r', VR r' v v') ∧ Below w.heap.size w w' := by
  refine (runE_ok fits EsOk.nil h).calls (r := ren1 8 ⟨b, 0, 0, 0⟩) fits hg hb (fun l o h => ?_) (.cons ?_ (ha _)) ?_
  · have := mkT_mem h
    simp only [List.mem_singleton, Prod.mk.injEq] at this
    exact ⟨_, _, this.2⟩
  · exact VR.ptr (loc := ⟨b, 0, 0, 0⟩) ren1_at
  · refine simOf (fun y hy => ?_) (fun y hy z hz _ _ _ _ _ => ?_) (fun k hk => ren1_gt (by have : (9 : Nat) ≤ k := hk; omega)) (by rw [sizeG1]; show 8 ≤ 9; decide) gl8
    · simp only [List.mem_singleton] at hy; subst hy
      refine ⟨show 8 < 9 by decide, _, _, ren1_at, hw, cs, fr, zs.length, rfl, fun i v hv => ?_⟩
      rw [T.get_puts] at hv
      split at hv
      · rename_i hi
        rw [Nat.sub_zero] at hv
        obtain ⟨v', h1, h2⟩ := (hz _).get hv
        exact ⟨by omega, v', by simpa using h1, h2⟩
      · rw [T.get_lf] at hv; cases hv
    · simp only [List.mem_singleton] at hy hz; subst hy; subst hz; rfl
theorem kn_calls {f : Nat} {ws : List V} {v : V} {nx' : Nat} (h : runE [] pg 100000 200 (kn f ws v nx') = true) {g : Func} (hg : pg.fn.get f = some g) (hb : g.body.isSome = true) {w : World} {ws' : List Value} (ha : ∀ r, VRs r ws ws') :
    Calls Tryz.prog f (Value.pointer none :: ws').toArray w fun en w' => ∃ v', en = .returned v' ∧ (∃ r', VR r' v v') ∧ Below w.heap.size w w' := by
  refine (runE_ok fits EsOk.nil h).calls (r := ren1 8 ⟨0, 0, 0, 0⟩) fits hg hb (fun l o h => ?_) (.cons .nilp (ha _)) ?_
  · have := mkT_mem h
    cases this
  · refine simOf (fun y hy => ?_) (fun y hy z hz _ _ _ _ _ => ?_) (fun k hk => ren1_gt (by have : (9 : Nat) ≤ k := hk; omega)) (by rw [sizeG1]; show 8 ≤ 9; decide) gl8
    · cases hy
    · cases hy
def zl : List V := [.int .i64 0, .nils, .nils]
def zf : List V := [.int .i64 0, .nils]
end Go.Am
namespace Go.Proofs.Zt
open Go Go.Am Go.RowKit
/-- A leader that nobody made. -/
def LeadAt (w : World) (l : Value) : Prop := l = .pointer none ∨ ∃ b fr, l = .pointer (some ⟨b, 0, none⟩) ∧ w.heap[b]? = some (.cells #[.int .i64 0, .slice none 0 0, .slice none 0 0] 35 fr)
/-- A follower that nobody made. -/
def FollowAt (w : World) (l : Value) : Prop := l = .pointer none ∨ ∃ b fr, l = .pointer (some ⟨b, 0, none⟩) ∧ w.heap[b]? = some (.cells #[.int .i64 0, .slice none 0 0] 50 fr)
theorem heap_lt {w : World} {b : Nat} {o : Obj} (h : w.heap[b]? = some o) : b < w.heap.size := (Array.getElem?_eq_some_iff.1 h).1
theorem LeadAt.below {w w' : World} {l : Value} (h : LeadAt w l) (hb : Below w.heap.size w w') : LeadAt w' l := by
  rcases h with h | ⟨b, fr, h1, h2⟩
  · exact .inl h
  · exact .inr ⟨b, fr, h1, (hb.block b (heap_lt h2)).trans h2⟩
theorem FollowAt.below {w w' : World} {l : Value} (h : FollowAt w l) (hb : Below w.heap.size w w') : FollowAt w' l := by
  rcases h with h | ⟨b, fr, h1, h2⟩
  · exact .inl h
  · exact .inr ⟨b, fr, h1, (hb.block b (heap_lt h2)).trans h2⟩
theorem zl_ok : ∀ r, VRs r zl (#[Value.int .i64 0, .slice none 0 0, .slice none 0 0] : Array Value).toList := fun _ => .cons (.int _ _) (.cons .nils (.cons .nils .nil))
theorem zf_ok : ∀ r, VRs r zf (#[Value.int .i64 0, .slice none 0 0] : Array Value).toList := fun _ => .cons (.int _ _) (.cons .nils .nil)
theorem vr_nils {r : Ren} {v : Value} (h : VR r .nils v) : v = .slice none 0 0 := by cases h; rfl
theorem vr_int {r : Ren} {v : Value} {k : IntKind} {n : Int} (h : VR r (.int k n) v) : v = .int k n := by cases h; rfl
theorem vr_tup2 {r : Ren} {v : Value} {a b : V} (h : VR r (.tup [a, b]) v) : ∃ x y, v = .tuple #[x, y] ∧ VR r a x ∧ VR r b y := by
  cases h with
  | tup h =>
    rename_i cs
    cases hc : cs.toList with
    | nil => rw [hc] at h; cases h
    | cons x t =>
      rw [hc] at h
      cases h with
      | cons h1 h2 =>
        cases h2 with
        | cons h3 h4 =>
          cases h4
          exact ⟨_, _, by rw [← Array.toArray_toList (xs := cs), hc], h1, h3⟩
theorem kin_ans {w : World} {l x : Value} (hl : LeadAt w l) (hx : x.oneCell' = true) : Calls Tryz.prog 7 #[l, x] w fun e w' => e = .returned (.tuple #[.slice none 0 0, .int .i64 2]) ∧ Below w.heap.size w w' := by
  have fin : ∀ {en : Ending} {w' : World}, (∃ v', en = .returned v' ∧ (∃ r', VR r' (.tup [.nils, .int .i64 2]) v') ∧ Below w.heap.size w w') → en = .returned (.tuple #[.slice none 0 0, .int .i64 2]) ∧ Below w.heap.size w w' := by
    rintro en w' ⟨v', rfl, ⟨r', hr⟩, hb⟩
    obtain ⟨a, b, rfl, ha, hb'⟩ := vr_tup2 hr
    rw [vr_nils ha, vr_int hb']
    exact ⟨rfl, hb⟩
  rcases hl with rfl | ⟨b, fr, rfl, h⟩
  · exact (kn_calls (f := 7) (ws := [.any]) (v := .tup [.nils, .int .i64 2]) (nx' := 9) (by kernel_rfl) (g := Tryz.f7) (by kernel_rfl) (by kernel_rfl) (w := w) (ws' := [x]) (fun _ => .cons (.any _ hx) .nil)).mono fun _ _ h => fin h
  · exact (kp_calls (f := 7) (zs := zl) (e := 35) (ws := [.any]) (v := .tup [.nils, .int .i64 2]) (nx' := 9) (by kernel_rfl) (g := Tryz.f7) (by kernel_rfl) (by kernel_rfl) h zl_ok (ws' := [x]) (fun _ => .cons (.any _ hx) .nil)).mono fun _ _ h => fin h
theorem kin_take {w : World} {l x : Value} (hl : FollowAt w l) (hx : x.oneCell' = true) : Calls Tryz.prog 13 #[l, x] w fun e w' => e = .returned (.tuple #[.int .i64 0, .int .i64 2]) ∧ Below w.heap.size w w' := by
  have fin : ∀ {en : Ending} {w' : World}, (∃ v', en = .returned v' ∧ (∃ r', VR r' (.tup [.int .i64 0, .int .i64 2]) v') ∧ Below w.heap.size w w') → en = .returned (.tuple #[.int .i64 0, .int .i64 2]) ∧ Below w.heap.size w w' := by
    rintro en w' ⟨v', rfl, ⟨r', hr⟩, hb⟩
    obtain ⟨a, b, rfl, ha, hb'⟩ := vr_tup2 hr
    rw [vr_int ha, vr_int hb']
    exact ⟨rfl, hb⟩
  rcases hl with rfl | ⟨b, fr, rfl, h⟩
  · exact (kn_calls (f := 13) (ws := [.any]) (v := .tup [.int .i64 0, .int .i64 2]) (nx' := 9) (by kernel_rfl) (g := Tryz.f13) (by kernel_rfl) (by kernel_rfl) (w := w) (ws' := [x]) (fun _ => .cons (.any _ hx) .nil)).mono fun _ _ h => fin h
  · exact (kp_calls (f := 13) (zs := zf) (e := 50) (ws := [.any]) (v := .tup [.int .i64 0, .int .i64 2]) (nx' := 9) (by kernel_rfl) (g := Tryz.f13) (by kernel_rfl) (by kernel_rfl) h zf_ok (ws' := [x]) (fun _ => .cons (.any _ hx) .nil)).mono fun _ _ h => fin h
theorem fin_int {n : Int} {w : World} {en : Ending} {w' : World} (h : ∃ v', en = .returned v' ∧ (∃ r', VR r' (.int .i64 n) v') ∧ Below w.heap.size w w') : en = .returned (.int .i64 n) ∧ Below w.heap.size w w' := by
  obtain ⟨v', rfl, ⟨r', hr⟩, hb⟩ := h
  rw [vr_int hr]
  exact ⟨rfl, hb⟩
theorem fin_nils {w : World} {en : Ending} {w' : World} (h : ∃ v', en = .returned v' ∧ (∃ r', VR r' .nils v') ∧ Below w.heap.size w w') : en = .returned (.slice none 0 0) ∧ Below w.heap.size w w' := by
  obtain ⟨v', rfl, ⟨r', hr⟩, hb⟩ := h
  rw [vr_nils hr]
  exact ⟨rfl, hb⟩
theorem kin_add {w : World} {l x y : Value} (hl : LeadAt w l) (hx : x.oneCell' = true) (hy : y.oneCell' = true) : Calls Tryz.prog 8 #[l, .agg #[x, y]] w fun e w' => e = .returned (.int .i64 2) ∧ Below w.heap.size w w' := by
  have ha : ∀ r, VRs r [.agg [.any, .any]] [.agg #[x, y]] := fun r => .cons (.agg (.cons (.any _ hx) (.cons (.any _ hy) .nil))) .nil
  rcases hl with rfl | ⟨b, fr, rfl, h⟩
  · exact (kn_calls (f := 8) (v := .int .i64 2) (nx' := 10) (by kernel_rfl) (g := Tryz.f8) (by kernel_rfl) (by kernel_rfl) (w := w) ha).mono fun _ _ h => fin_int h
  · exact (kp_calls (f := 8) (zs := zl) (e := 35) (v := .int .i64 2) (nx' := 10) (by kernel_rfl) (g := Tryz.f8) (by kernel_rfl) (by kernel_rfl) h zl_ok ha).mono fun _ _ h => fin_int h
theorem kin_cut {w : World} {l x : Value} (hl : LeadAt w l) (hx : x.oneCell' = true) : Calls Tryz.prog 10 #[l, x] w fun e w' => e = .returned (.int .i64 0) ∧ Below w.heap.size w w' := by
  have ha : ∀ r, VRs r [.any] [x] := fun r => .cons (.any _ hx) .nil
  rcases hl with rfl | ⟨b, fr, rfl, h⟩
  · exact (kn_calls (f := 10) (v := .int .i64 0) (nx' := 9) (by kernel_rfl) (g := Tryz.f10) (by kernel_rfl) (by kernel_rfl) (w := w) ha).mono fun _ _ h => fin_int h
  · exact (kp_calls (f := 10) (zs := zl) (e := 35) (v := .int .i64 0) (nx' := 9) (by kernel_rfl) (g := Tryz.f10) (by kernel_rfl) (by kernel_rfl) h zl_ok ha).mono fun _ _ h => fin_int h
theorem kin_next {w : World} {l : Value} (hl : LeadAt w l) : Calls Tryz.prog 11 #[l] w fun e w' => e = .returned (.int .i64 0) ∧ Below w.heap.size w w' := by
  have ha : ∀ r, VRs r [] [] := fun r => .nil
  rcases hl with rfl | ⟨b, fr, rfl, h⟩
  · exact (kn_calls (f := 11) (v := .int .i64 0) (nx' := 9) (by kernel_rfl) (g := Tryz.f11) (by kernel_rfl) (by kernel_rfl) (w := w) ha).mono fun _ _ h => fin_int h
  · exact (kp_calls (f := 11) (zs := zl) (e := 35) (v := .int .i64 0) (nx' := 9) (by kernel_rfl) (g := Tryz.f11) (by kernel_rfl) (by kernel_rfl) h zl_ok ha).mono fun _ _ h => fin_int h
theorem kin_files {w : World} {l : Value} (hl : LeadAt w l) : Calls Tryz.prog 12 #[l] w fun e w' => e = .returned (.slice none 0 0) ∧ Below w.heap.size w w' := by
  have ha : ∀ r, VRs r [] [] := fun r => .nil
  rcases hl with rfl | ⟨b, fr, rfl, h⟩
  · exact (kn_calls (f := 12) (v := .nils) (nx' := 9) (by kernel_rfl) (g := Tryz.f12) (by kernel_rfl) (by kernel_rfl) (w := w) ha).mono fun _ _ h => fin_nils h
  · exact (kp_calls (f := 12) (zs := zl) (e := 35) (v := .nils) (nx' := 9) (by kernel_rfl) (g := Tryz.f12) (by kernel_rfl) (by kernel_rfl) h zl_ok ha).mono fun _ _ h => fin_nils h
theorem kin_ask {w : World} {l : Value} (hl : FollowAt w l) : Calls Tryz.prog 14 #[l] w fun e w' => e = .returned (.slice none 0 0) ∧ Below w.heap.size w w' := by
  have ha : ∀ r, VRs r [] [] := fun r => .nil
  rcases hl with rfl | ⟨b, fr, rfl, h⟩
  · exact (kn_calls (f := 14) (v := .nils) (nx' := 9) (by kernel_rfl) (g := Tryz.f14) (by kernel_rfl) (by kernel_rfl) (w := w) ha).mono fun _ _ h => fin_nils h
  · exact (kp_calls (f := 14) (zs := zf) (e := 50) (v := .nils) (nx' := 9) (by kernel_rfl) (g := Tryz.f14) (by kernel_rfl) (by kernel_rfl) h zf_ok ha).mono fun _ _ h => fin_nils h
theorem kin_fnext {w : World} {l : Value} (hl : FollowAt w l) : Calls Tryz.prog 15 #[l] w fun e w' => e = .returned (.int .i64 0) ∧ Below w.heap.size w w' := by
  have ha : ∀ r, VRs r [] [] := fun r => .nil
  rcases hl with rfl | ⟨b, fr, rfl, h⟩
  · exact (kn_calls (f := 15) (v := .int .i64 0) (nx' := 9) (by kernel_rfl) (g := Tryz.f15) (by kernel_rfl) (by kernel_rfl) (w := w) ha).mono fun _ _ h => fin_int h
  · exact (kp_calls (f := 15) (zs := zf) (e := 50) (v := .int .i64 0) (nx' := 9) (by kernel_rfl) (g := Tryz.f15) (by kernel_rfl) (by kernel_rfl) h zf_ok ha).mono fun _ _ h => fin_int h
theorem kin_ffiles {w : World} {l : Value} (hl : FollowAt w l) : Calls Tryz.prog 16 #[l] w fun e w' => e = .returned (.slice none 0 0) ∧ Below w.heap.size w w' := by
  have ha : ∀ r, VRs r [] [] := fun r => .nil
  rcases hl with rfl | ⟨b, fr, rfl, h⟩
  · exact (kn_calls (f := 16) (v := .nils) (nx' := 9) (by kernel_rfl) (g := Tryz.f16) (by kernel_rfl) (by kernel_rfl) (w := w) ha).mono fun _ _ h => fin_nils h
  · exact (kp_calls (f := 16) (zs := zf) (e := 50) (v := .nils) (nx' := 9) (by kernel_rfl) (g := Tryz.f16) (by kernel_rfl) (by kernel_rfl) h zf_ok ha).mono fun _ _ h => fin_nils h
end Go.Proofs.Zt
