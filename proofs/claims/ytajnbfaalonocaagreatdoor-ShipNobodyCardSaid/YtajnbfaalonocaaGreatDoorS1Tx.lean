/- A part of the abstract machine, or of a proof over it. -/
import Derived.Test.YtajnbfaalonocaaGreatDoorProg
import Derived.WalkKit
import Derived.Test.YtajnbfaalonocaaGreatDoorAmOps1
import Derived.ProofKit
import Derived.Carry
import Derived.Handy
import Derived.Lib.Hide
namespace Go.Proofs.Zt
open Go Go.RowKit
theorem info93 : (Tryz.prog.info? 93).map (fun i => (i.zero, i.size, i.bytes)) = some (some (.agg #[.string ⟨#[]⟩, .string ⟨#[]⟩, .string ⟨#[]⟩, .slice none 0 0, .int .i64 0]), 5, 80) := by kernel_rfl
/-- An op of a transaction, in its five cells. -/
structure OpAt (w : World) (b o : Nat) (d f p : ByteArray) (na : Option Addr) (nl nc : Nat) (z : Int) : Prop where
  c0 : w.cell? ⟨b, o, none⟩ = some (.string d)
  c1 : w.cell? ⟨b, o + 1, none⟩ = some (.string f)
  c2 : w.cell? ⟨b, o + 2, none⟩ = some (.string p)
  c3 : w.cell? ⟨b, o + 3, none⟩ = some (.slice na nl nc)
  c4 : w.cell? ⟨b, o + 4, none⟩ = some (.int .i64 z)
theorem results_cell_struct2 (W : World) (b : Nat) (x y : Value) {T : Array Value} (h0 : W.cell? ⟨b, 0, none⟩ = some x) (h1 : W.cell? ⟨b, 1, none⟩ = some y) (hT : T.getD 2 undef = .pointer (some ⟨b, 0, none⟩) := by rfl) : (results Tryz.f9 T).run Tryz.prog W = .ok (.agg #[x, y]) W := by
  have hr : Tryz.f9.results = #[.cell 2 43] := rfl
  have hl : (loadCells ⟨b, 0, none⟩ 2).run Tryz.prog W = .ok #[x, y] W := run_loadCells_list _ _ [x, y] fun j v hv => by
    rw [Am.Addr.add_none]
    match j, hv with
    | 0, hv => simp at hv; subst hv; exact h0
    | 1, hv => simp at hv; subst hv; exact h1
  have hld : (loadVar 43 ⟨b, 0, none⟩).run Tryz.prog W = .ok (.agg #[x, y]) W := by
    simp [loadVar, hl]
  have hT2 : T[2]?.getD undef = .pointer (some ⟨b, 0, none⟩) := by rw [← Array.getD_eq_getD_getElem?]; exact hT
  simp [results, hr, hT2, asAddr, hld]
set_option maxHeartbeats 800000 in
set_option maxRecDepth 1000000 in
theorem tx_some (id : Int) (b off n cap : Nat) (D F Pt : Nat → ByteArray) (NA : Nat → Option Addr) (NL NC : Nat → Nat) (Z : Nat → Int) (w : World) (hn : n * 80 ≤ 140737488355328) (hb : b < w.heap.size)
    (hc : ∀ k, k < n → OpAt w b (off + k * 5) (D k) (F k) (Pt k) (NA k) (NL k) (NC k) (Z k)) :
    Calls Tryz.prog 9 #[.agg #[.int .i64 id, .slice (some ⟨b, off, none⟩) n cap]] w fun e w' => (∃ x y, e = .returned (.agg #[x, y]) ∧ x.oneCell' = true ∧ y.oneCell' = true) ∧ Below w.heap.size w w' := by
  obtain ⟨i0, hi, hz0, hz1, hz2⟩ := info_parts info93
  have hc' := Lib.hid hc; clear hc
  go_enter Tryz.func9, Tryz.ntmps9
  go_wp2
  go_loopw [12] (fun i wr => ∃ (k : Nat) (v : Value) (xs : List Value), k ≤ n ∧ i = .int .i64 k ∧ wr.cell? ⟨w.heap.size + 1 + 1, 0, none⟩ = some (.int .i64 id) ∧ wr.cell? ⟨w.heap.size + 1 + 1, 1, none⟩ = some v ∧ (∃ a l c, v = .slice a l c) ∧ wr.ownsRow (w.heap.size + 3) 93 5 v k xs ∧
      wr.frozen? ⟨w.heap.size + 1 + 1, 1, none⟩ = false ∧ wr.frozen? ⟨w.heap.size + 1, 0, none⟩ = false ∧ wr.frozen? ⟨w.heap.size + 1, 1, none⟩ = false ∧ wr.cell? ⟨w.heap.size + 1, 0, none⟩ = some (.int .i64 0) ∧ wr.cell? ⟨w.heap.size + 1, 1, none⟩ = some (.slice none 0 0) ∧ w.heap.size + 3 ≤ wr.heap.size ∧ Below w.heap.size w wr) (fun i _ => n - (intOf i).toNat)
  case atStart =>
    refine ⟨0, .slice none 0 0, [], Nat.zero_le _, rfl, ?_, ?_, ⟨_, _, _, rfl⟩, ?_, ?_, ?_, ?_, ?_, ?_, ?_, ?_⟩
    · rw [World.cell?_alloc_at _ _ _ _ (by simp)]; rfl
    · rw [World.cell?_alloc_at _ _ _ _ (by simp)]; rfl
    · exact World.ownsRow_nil _ _ _ _
    · exact World.frozen?_alloc_at _ _ _ _ (by simp)
    · rw [World.frozen?_alloc_past _ _ _ (by simp)]; exact World.frozen?_alloc_at _ _ _ _ (by simp)
    · rw [World.frozen?_alloc_past _ _ _ (by simp)]; exact World.frozen?_alloc_at _ _ _ _ (by simp)
    · rw [World.cell?_alloc_past _ _ _ (by simp), World.cell?_alloc_at _ _ _ _ (by simp)]; rfl
    · rw [World.cell?_alloc_past _ _ _ (by simp), World.cell?_alloc_at _ _ _ _ (by simp)]; rfl
    · simp
    · exact (((Below.refl _ _).alloc (Nat.le_refl _) _).alloc (by simp) _).alloc (by simp; omega) _
  case round =>
    obtain ⟨k, v, xs, hk, rfl, hid, hv, ⟨va, vl, vc, rfl⟩, hown, hf1, hf2, hf3, hr0, hr1, hsz, hbel⟩ := hrel
    have HO := Lib.hid hown; clear hown
    have HB := Lib.hid hbel; clear hbel
    by_cases hlt : k < n
    · have e0 := (HB.out.cell hb).trans (hc'.out k hlt).c0
      have e1 := (HB.out.cell hb).trans (hc'.out k hlt).c1
      have e2 := (HB.out.cell hb).trans (hc'.out k hlt).c2
      have e3 := (HB.out.cell hb).trans (hc'.out k hlt).c3
      have e4 := (HB.out.cell hb).trans (hc'.out k hlt).c4
      have hd : decide ((k : Int) < (n : Int)) = true := decide_eq_true (by omega)
      have A1 : ∀ o, (wr.alloc o).cell? ⟨w.heap.size + 1 + 1, 1, none⟩ = some (.slice va vl vc) := fun o => by rw [World.cell?_alloc_past _ _ _ (by show w.heap.size + 1 + 1 < wr.heap.size; omega)]; exact hv
      go_wp2_with (at_builtin; refine wpList_append_own _ rfl _ _ 41 rfl (w.heap.size + 3) 93 i0 (.agg #[.string ⟨#[]⟩, .string ⟨#[]⟩, .string ⟨#[]⟩, .slice none 0 0, .int .i64 0]) 5 80 Tryz.underlying41 hi hz0 hz1 hz2 rfl (by decide) _ _ _ rfl ((HO.out.alloc _).alloc _) ⟨wr.heap.size + 1, 0, none⟩ 1 1 [.string (D k), .string (F k), .string (Pt k), .slice (NA k) (NL k) (NC k), .int .i64 (Z k)] rfl rfl ?c1 ?c2 ?c3 ?c4 ?c5 ?_)
      case c1 =>
        intro j u hj
        have hx : ∀ (o : Obj) (q : Array Value) (j : Nat), ((wr.alloc o).alloc (.cells q 93)).cell? ((⟨wr.heap.size + 1, 0, none⟩ : Addr).add j) = q[j]? := fun o q j => by
          have e : (⟨wr.heap.size + 1, 0, none⟩ : Addr).add j = ⟨wr.heap.size + 1, j, none⟩ := by unfold Addr.add; split <;> simp_all
          rw [e, World.cell?_alloc_at _ _ _ _ (by simp)]
        rw [hx]
        rw [← hj]; simp
      case c2 => intro u hu; simp at hu; rcases hu with rfl | rfl | rfl | rfl | rfl <;> rfl
      case c3 => unfold maxLen; omega
      case c4 => omega
      case c5 => simp; omega
      intro v' w1 hown' hgrow _
      have HB3 : Below (w.heap.size + 3) wr w1 := (((Below.refl _ wr).alloc hsz _).alloc (by simp; omega) _).grown hgrow (by simp; omega) (fun j hj => (HO.out.lt j hj).1)
      have HBW : Below w.heap.size w w1 := HB.out.trans (HB3.mono (by omega))
      have q0 : w1.cell? ⟨w.heap.size + 1 + 1, 0, none⟩ = some (.int .i64 id) := (HB3.cell (by simp only []; omega)).trans hid
      have q1 : w1.cell? ⟨w.heap.size + 1 + 1, 1, none⟩ = some (.slice va vl vc) := (HB3.cell (by simp only []; omega)).trans hv
      have q2 : w1.frozen? ⟨w.heap.size + 1 + 1, 1, none⟩ = false := (HB3.frozen (by simp only []; omega)).trans hf1
      have q3 : w1.frozen? ⟨w.heap.size + 1, 0, none⟩ = false := (HB3.frozen (by simp only []; omega)).trans hf2
      have q4 : w1.frozen? ⟨w.heap.size + 1, 1, none⟩ = false := (HB3.frozen (by simp only []; omega)).trans hf3
      have q5 : w1.cell? ⟨w.heap.size + 1, 0, none⟩ = some (.int .i64 0) := (HB3.cell (by simp only []; omega)).trans hr0
      have q6 : w1.cell? ⟨w.heap.size + 1, 1, none⟩ = some (.slice none 0 0) := (HB3.cell (by simp only []; omega)).trans hr1
      have q7 : w.heap.size + 3 ≤ w1.heap.size := Nat.le_trans hsz HB3.size
      have q8 : ∃ a l c, v' = .slice a l c := by
        rcases hown'.2 with ⟨h, -⟩ | ⟨g, cp, cur, h, -⟩
        · exact ⟨_, _, _, h⟩
        · exact ⟨_, _, _, h⟩
      obtain ⟨va', vl', vc', rfl⟩ := q8
      have HO' := Lib.hid hown'; clear hown'
      have HBW' := Lib.hid HBW; clear HBW
      clear HB3 hgrow hid hv hf1 hf2 hf3 hr0 hr1 e0 e1 e2 e3 e4 A1 HO HB hsz
      go_wp2
      go_roundw
      case rel =>
        exact ⟨k + 1, _, _, by omega, by go_num, (World.cell?_setCell_other _ _ _ _ (by intro e; rw [Addr.mk.injEq] at e; omega)).trans q0, World.cell?_setCell_same _ _ _ q1, ⟨_, _, _, rfl⟩, ownsRow_setCell_below HO'.out (by show w.heap.size + 1 + 1 < w.heap.size + 3; omega) _, (World.frozen?_setCell _ _ _ _).trans q2, (World.frozen?_setCell _ _ _ _).trans q3, (World.frozen?_setCell _ _ _ _).trans q4,
          (World.cell?_setCell_other _ _ _ _ (by intro e; rw [Addr.mk.injEq] at e; omega)).trans q5, (World.cell?_setCell_other _ _ _ _ (by intro e; rw [Addr.mk.injEq] at e; omega)).trans q6, by simpa [World.setCell] using q7, HBW'.out.setCell (by show w.heap.size ≤ w.heap.size + 1 + 1; omega) _⟩
      case measure => simp [intOf]; omega
    · have hd : decide ((k : Int) < (n : Int)) = false := decide_eq_false (by omega)
      go_wp2
      have g0 : ((wr.setCell ⟨w.heap.size + 1, 0, none⟩ (.int .i64 id)).setCell ⟨w.heap.size + 1, 1, none⟩ (.slice va vl vc)).cell? ⟨w.heap.size + 1, 0, none⟩ = some (.int .i64 id) := (World.cell?_setCell_other _ _ _ _ (by intro e; rw [Addr.mk.injEq] at e; omega)).trans (World.cell?_setCell_same _ _ _ hr0)
      have g1 : ((wr.setCell ⟨w.heap.size + 1, 0, none⟩ (.int .i64 id)).setCell ⟨w.heap.size + 1, 1, none⟩ (.slice va vl vc)).cell? ⟨w.heap.size + 1, 1, none⟩ = some (.slice va vl vc) := World.cell?_setCell_same _ _ _ ((World.cell?_setCell_other _ _ _ _ (by intro e; rw [Addr.mk.injEq] at e; omega)).trans hr1)
      have BB : Below w.heap.size w ((wr.setCell ⟨w.heap.size + 1, 0, none⟩ (.int .i64 id)).setCell ⟨w.heap.size + 1, 1, none⟩ (.slice va vl vc)) := (HB.out.setCell (by show w.heap.size ≤ w.heap.size + 1; omega) _).setCell (by show w.heap.size ≤ w.heap.size + 1; omega) _
      refine ⟨rfl, .agg #[.int .i64 id, .slice va vl vc], ?_, ⟨_, _, rfl, rfl, rfl⟩, BB⟩
      generalize (wr.setCell ⟨w.heap.size + 1, 0, none⟩ (.int .i64 id)).setCell ⟨w.heap.size + 1, 1, none⟩ (.slice va vl vc) = W at g0 g1
      exact results_cell_struct2 W _ _ _ g0 g1
end Go.Proofs.Zt
