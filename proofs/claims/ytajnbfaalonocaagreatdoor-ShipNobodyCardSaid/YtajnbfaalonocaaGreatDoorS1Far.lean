/- What grommetlaw32.far does with one act and no files: it returns true or false, and turns nothing that was there. -/
import Derived.Test.YtajnbfaalonocaaGreatDoorS1Add
namespace Go.Proofs.Zt
open Go Go.RowKit
/-- What an act's ops hold. -/
structure OpsAt (w : World) (oa : Option Addr) (n : Nat) : Prop where
  len : n ≤ 140737488355328
  at_ : n = 0 ∨ ∃ b off, oa = some ⟨b, off, none⟩ ∧ b < w.heap.size ∧ n * 80 ≤ 140737488355328 ∧ ∃ (D F Pt : Nat → ByteArray) (NA : Nat → Option Addr) (NL NC : Nat → Nat) (Z : Nat → Int), ∀ k, k < n →
    OpAt w b (off + k * 5) (D k) (F k) (Pt k) (NA k) (NL k) (NC k) (Z k) ∧ NL k ≤ 140737488355328 ∧
    (NL k = 0 ∨ ∃ nb no, NA k = some ⟨nb, no, none⟩ ∧ nb < w.heap.size ∧ ∃ (Kd : Nat → Int) (T : Nat → ByteArray) (KA : Nat → Option Addr) (KL KC : Nat → Nat), ∀ i, i < NL k → NodeAt w nb (no + i * 3) (Kd i) (T i) (KA i) (KL i) (KC i))
set_option maxHeartbeats 1600000 in
set_option maxRecDepth 1000000 in
theorem far_one (c n oc rn rc : Nat) (kd nn id by_ : Int) (oa ra : Option Addr) (w : World) (hc : c < w.heap.size) (hrn : rn ≤ 140737488355328) (hrc : rn ≤ rc) (hoc : n ≤ oc)
    (c0 : w.cell? ⟨c, 0, none⟩ = some (.int .u8 kd)) (c1 : w.cell? ⟨c, 1, none⟩ = some (.int .i64 nn)) (c2 : w.cell? ⟨c, 2, none⟩ = some (.int .i64 id)) (c3 : w.cell? ⟨c, 3, none⟩ = some (.slice oa n oc)) (c4 : w.cell? ⟨c, 4, none⟩ = some (.slice ra rn rc)) (c5 : w.cell? ⟨c, 5, none⟩ = some (.int .u8 by_))
    (hO : OpsAt w oa n) :
    Calls Tryz.prog 5 #[.slice (some ⟨c, 0, none⟩) 1 1, .slice none 0 0] w fun e w' => (∃ x, e = .returned (.bool x)) ∧ Below w.heap.size w w' := by
  have hO' := Lib.hid hO; clear hO
  have hmf : ∀ (fn : Fn) (first cap : Array Value) (w : World), (Instr.makeFunc fn first cap).run Tryz.prog w = .ok (.func fn first cap) w := fun _ _ _ _ => rfl
  have a0 : ∀ o, (w.alloc o).cell? ⟨c, 0, none⟩ = some (.int .u8 kd) := fun o => by rw [World.cell?_alloc_past _ _ _ hc]; exact c0
  have a1 : ∀ o, (w.alloc o).cell? ⟨c, 1, none⟩ = some (.int .i64 nn) := fun o => by rw [World.cell?_alloc_past _ _ _ hc]; exact c1
  have a2 : ∀ o, (w.alloc o).cell? ⟨c, 2, none⟩ = some (.int .i64 id) := fun o => by rw [World.cell?_alloc_past _ _ _ hc]; exact c2
  have a3 : ∀ o, (w.alloc o).cell? ⟨c, 3, none⟩ = some (.slice oa n oc) := fun o => by rw [World.cell?_alloc_past _ _ _ hc]; exact c3
  have a4 : ∀ o, (w.alloc o).cell? ⟨c, 4, none⟩ = some (.slice ra rn rc) := fun o => by rw [World.cell?_alloc_past _ _ _ hc]; exact c4
  have a5 : ∀ o, (w.alloc o).cell? ⟨c, 5, none⟩ = some (.int .u8 by_) := fun o => by rw [World.cell?_alloc_past _ _ _ hc]; exact c5
  clear c0 c1 c2 c3 c4 c5
  go_enter Tryz.func5, Tryz.ntmps5
  go_wp2_with go_in
  refine wp_loop_rounds 2 ?_
  rw [rounds_succ]
  go_wp2
  · skip
    go_loopw [38] (fun i wr => ∃ (k : Nat) (q : Int), k ≤ n ∧ k ≤ 70 ∧ i = .int .i64 k ∧ wr.cell? ⟨w.heap.size, 0, none⟩ = some (.int .i64 q) ∧ wr.frozen? ⟨w.heap.size, 0, none⟩ = false ∧ wr.cell? ⟨w.heap.size + 1, 3, none⟩ = some (.slice oa n oc) ∧ w.heap.size + 2 ≤ wr.heap.size ∧ Below w.heap.size w wr) (fun i _ => 70 - (intOf i).toNat)
    case atStart =>
      refine ⟨0, -21000, Nat.zero_le _, by omega, rfl, ?_, ?_, ?_, ?_, ?_⟩
      · rw [World.cell?_alloc_past _ _ _ (by simp), World.cell?_alloc_at _ _ _ _ (by simp)]; rfl
      · rw [World.frozen?_alloc_past _ _ _ (by simp)]; exact World.frozen?_alloc_at _ _ _ _ (by simp)
      · rw [World.cell?_alloc_at _ _ _ _ (by simp)]; rfl
      · simp
      · exact ((Below.refl _ _).alloc (Nat.le_refl _) _).alloc (by simp) _
    case round =>
      obtain ⟨k, q, hkn, hk70, rfl, hq, hf, hops, hsz, hbel⟩ := hrel
      have HB := Lib.hid hbel; clear hbel
      clear a0 a1 a2 a3 a4 a5
      by_cases hlt : k < 70
      · have hkn2 : k < n := by omega
        have hd : decide ((k : Int) < (70 : Int)) = true := decide_eq_true (by omega)
        rcases hO'.out.at_ with h0 | ⟨b, off, rfl, hb, hn80, D, F, Pt, NA, NL, NC, Z, hall⟩
        · exact absurd h0 (by omega)
        obtain ⟨hop, hnl, hnode⟩ := hall k hkn2
        clear hall
        have e0 := (HB.out.cell hb).trans hop.c0
        have e1 := (HB.out.cell hb).trans hop.c1
        have e2 := (HB.out.cell hb).trans hop.c2
        have e3 := (HB.out.cell hb).trans hop.c3
        have e4 := (HB.out.cell hb).trans hop.c4
        clear hop
        have hLr : w.heap.size < wr.heap.size := by omega
        have A0 : ∀ o, (wr.alloc o).cell? ⟨w.heap.size, 0, none⟩ = some (.int .i64 q) := fun o => by rw [World.cell?_alloc_past _ _ _ hLr]; exact hq
        have A1 : ∀ o, (wr.alloc o).frozen? ⟨w.heap.size, 0, none⟩ = false := fun o => by rw [World.frozen?_alloc_past _ _ _ hLr]; exact hf
        have HN := Lib.hid hnode; clear hnode
        go_wp2_with fail
        have HBW : Below w.heap.size w ((wr.setCell ⟨w.heap.size, 0, none⟩ (Value.int IntKind.i64 (wrap64 (q - wrap64 (wrap64 (↑(Pt k).size + ↑(F k).size) + ↑(D k).size))))).alloc
            (Obj.cells #[Value.string (D k), Value.string (F k), Value.string (Pt k), Value.slice (NA k) (NL k) (NC k), Value.int IntKind.i64 (Z k)] 78)) := (HB.out.setCell (by show w.heap.size ≤ w.heap.size; omega) _).alloc (by simp [World.setCell]; omega) _
        refine (add_any _ _ _ _ _ _ _ (set_alloc hq hLr) (set_alloc_frozen hf hLr) (by simp [World.setCell]; omega) hnl ?_).mono ?_
        · rcases HN.out with h0 | ⟨nb, no, h1, h2, Kd, T, KA, KL, KC, h3⟩
          · exact .inl h0
          · exact .inr ⟨nb, no, h1, by simp [World.setCell]; omega, by omega, Kd, T, KA, KL, KC, fun i hi => (h3 i hi).below HBW h2⟩
        · rintro en w1 ⟨rfl, ⟨q1, hq1⟩, hf1, hBut⟩
          have r3 : w1.cell? ⟨w.heap.size + 1, 3, none⟩ = some (.slice (some ⟨b, off, none⟩) n oc) := (hBut.cell (by simp [World.setCell]; omega) (by simp)).trans (by rw [World.cell?_alloc_past _ _ _ (by simp [World.setCell]; omega), World.cell?_setCell_other _ _ _ _ (by intro e; rw [Addr.mk.injEq] at e; omega)]; exact hops)
          have r4 : w.heap.size + 2 ≤ w1.heap.size := Nat.le_trans (by simp [World.setCell]; omega) hBut.size
          have r5 : Below w.heap.size w w1 := HBW.trans (hBut.below (Nat.le_refl _) (by simp [World.setCell]; omega))
          have R5 := Lib.hid r5; clear r5
          clear hBut HBW A0 A1 HN HB hq hf hops e0 e1 e2 e3 e4
          go_wp2
          go_roundw
          case rel => exact ⟨k + 1, q1, by omega, by omega, by go_num, hq1, hf1, r3, r4, R5.out⟩
          case measure => simp [intOf]; omega
      · have hd : decide ((k : Int) < (70 : Int)) = false := decide_eq_false (by omega)
        go_wp2
        all_goals first
          | (refine ⟨rfl, _, results_tmp rfl _ _ _, ?_, HB.out⟩; first | exact ⟨_, rfl⟩ | exact .inl rfl | exact .inr rfl)
          | (rw [rounds_succ]
             go_wp2
             refine wp_loop_rounds 1 ?_
             rw [rounds_succ]
             go_wp2
             all_goals (refine ⟨rfl, _, results_tmp rfl _ _ _, ?_, HB.out⟩; first | exact ⟨_, rfl⟩ | exact .inl rfl | exact .inr rfl))
  · skip
    go_loopw [38] (fun i wr => ∃ (k : Nat) (q : Int), k ≤ n ∧ k ≤ 70 ∧ i = .int .i64 k ∧ wr.cell? ⟨w.heap.size, 0, none⟩ = some (.int .i64 q) ∧ wr.frozen? ⟨w.heap.size, 0, none⟩ = false ∧ wr.cell? ⟨w.heap.size + 1, 3, none⟩ = some (.slice oa n oc) ∧ w.heap.size + 2 ≤ wr.heap.size ∧ Below w.heap.size w wr) (fun i _ => 70 - (intOf i).toNat)
    case atStart =>
      refine ⟨0, -21000, Nat.zero_le _, by omega, rfl, ?_, ?_, ?_, ?_, ?_⟩
      · rw [World.cell?_alloc_past _ _ _ (by simp), World.cell?_alloc_at _ _ _ _ (by simp)]; rfl
      · rw [World.frozen?_alloc_past _ _ _ (by simp)]; exact World.frozen?_alloc_at _ _ _ _ (by simp)
      · rw [World.cell?_alloc_at _ _ _ _ (by simp)]; rfl
      · simp
      · exact ((Below.refl _ _).alloc (Nat.le_refl _) _).alloc (by simp) _
    case round =>
      obtain ⟨k, q, hkn, hk70, rfl, hq, hf, hops, hsz, hbel⟩ := hrel
      have HB := Lib.hid hbel; clear hbel
      clear a0 a1 a2 a3 a4 a5
      by_cases hlt : k < n
      · have hkn2 : k < n := by omega
        have hd : decide ((k : Int) < (n : Int)) = true := decide_eq_true (by omega)
        rcases hO'.out.at_ with h0 | ⟨b, off, rfl, hb, hn80, D, F, Pt, NA, NL, NC, Z, hall⟩
        · exact absurd h0 (by omega)
        obtain ⟨hop, hnl, hnode⟩ := hall k hkn2
        clear hall
        have e0 := (HB.out.cell hb).trans hop.c0
        have e1 := (HB.out.cell hb).trans hop.c1
        have e2 := (HB.out.cell hb).trans hop.c2
        have e3 := (HB.out.cell hb).trans hop.c3
        have e4 := (HB.out.cell hb).trans hop.c4
        clear hop
        have hLr : w.heap.size < wr.heap.size := by omega
        have A0 : ∀ o, (wr.alloc o).cell? ⟨w.heap.size, 0, none⟩ = some (.int .i64 q) := fun o => by rw [World.cell?_alloc_past _ _ _ hLr]; exact hq
        have A1 : ∀ o, (wr.alloc o).frozen? ⟨w.heap.size, 0, none⟩ = false := fun o => by rw [World.frozen?_alloc_past _ _ _ hLr]; exact hf
        have HN := Lib.hid hnode; clear hnode
        go_wp2_with fail
        have HBW : Below w.heap.size w ((wr.setCell ⟨w.heap.size, 0, none⟩ (Value.int IntKind.i64 (wrap64 (q - wrap64 (wrap64 (↑(Pt k).size + ↑(F k).size) + ↑(D k).size))))).alloc
            (Obj.cells #[Value.string (D k), Value.string (F k), Value.string (Pt k), Value.slice (NA k) (NL k) (NC k), Value.int IntKind.i64 (Z k)] 78)) := (HB.out.setCell (by show w.heap.size ≤ w.heap.size; omega) _).alloc (by simp [World.setCell]; omega) _
        refine (add_any _ _ _ _ _ _ _ (set_alloc hq hLr) (set_alloc_frozen hf hLr) (by simp [World.setCell]; omega) hnl ?_).mono ?_
        · rcases HN.out with h0 | ⟨nb, no, h1, h2, Kd, T, KA, KL, KC, h3⟩
          · exact .inl h0
          · exact .inr ⟨nb, no, h1, by simp [World.setCell]; omega, by omega, Kd, T, KA, KL, KC, fun i hi => (h3 i hi).below HBW h2⟩
        · rintro en w1 ⟨rfl, ⟨q1, hq1⟩, hf1, hBut⟩
          have r3 : w1.cell? ⟨w.heap.size + 1, 3, none⟩ = some (.slice (some ⟨b, off, none⟩) n oc) := (hBut.cell (by simp [World.setCell]; omega) (by simp)).trans (by rw [World.cell?_alloc_past _ _ _ (by simp [World.setCell]; omega), World.cell?_setCell_other _ _ _ _ (by intro e; rw [Addr.mk.injEq] at e; omega)]; exact hops)
          have r4 : w.heap.size + 2 ≤ w1.heap.size := Nat.le_trans (by simp [World.setCell]; omega) hBut.size
          have r5 : Below w.heap.size w w1 := HBW.trans (hBut.below (Nat.le_refl _) (by simp [World.setCell]; omega))
          have R5 := Lib.hid r5; clear r5
          clear hBut HBW A0 A1 HN HB hq hf hops e0 e1 e2 e3 e4
          go_wp2
          go_roundw
          case rel => exact ⟨k + 1, q1, by omega, by omega, by go_num, hq1, hf1, r3, r4, R5.out⟩
          case measure => simp [intOf]; omega
      · have hd : decide ((k : Int) < (n : Int)) = false := decide_eq_false (by omega)
        go_wp2
        all_goals first
          | (refine ⟨rfl, _, results_tmp rfl _ _ _, ?_, HB.out⟩; first | exact ⟨_, rfl⟩ | exact .inl rfl | exact .inr rfl)
          | (rw [rounds_succ]
             go_wp2
             refine wp_loop_rounds 1 ?_
             rw [rounds_succ]
             go_wp2
             all_goals (refine ⟨rfl, _, results_tmp rfl _ _ _, ?_, HB.out⟩; first | exact ⟨_, rfl⟩ | exact .inl rfl | exact .inr rfl))
  · skip
    go_loopw [38] (fun i wr => ∃ (k : Nat) (q : Int), k ≤ n ∧ k ≤ 70 ∧ i = .int .i64 k ∧ wr.cell? ⟨w.heap.size, 0, none⟩ = some (.int .i64 q) ∧ wr.frozen? ⟨w.heap.size, 0, none⟩ = false ∧ wr.cell? ⟨w.heap.size + 1, 3, none⟩ = some (.slice oa n oc) ∧ w.heap.size + 2 ≤ wr.heap.size ∧ Below w.heap.size w wr) (fun i _ => 70 - (intOf i).toNat)
    case atStart =>
      refine ⟨0, 4000 - (rn : Int) / 4, Nat.zero_le _, by omega, rfl, ?_, ?_, ?_, ?_, ?_⟩
      · rw [World.cell?_alloc_past _ _ _ (by simp), World.cell?_alloc_at _ _ _ _ (by simp)]; rfl
      · rw [World.frozen?_alloc_past _ _ _ (by simp)]; exact World.frozen?_alloc_at _ _ _ _ (by simp)
      · rw [World.cell?_alloc_at _ _ _ _ (by simp)]; rfl
      · simp
      · exact ((Below.refl _ _).alloc (Nat.le_refl _) _).alloc (by simp) _
    case round =>
      obtain ⟨k, q, hkn, hk70, rfl, hq, hf, hops, hsz, hbel⟩ := hrel
      have HB := Lib.hid hbel; clear hbel
      clear a0 a1 a2 a3 a4 a5
      by_cases hlt : k < 70
      · have hkn2 : k < n := by omega
        have hd : decide ((k : Int) < (70 : Int)) = true := decide_eq_true (by omega)
        rcases hO'.out.at_ with h0 | ⟨b, off, rfl, hb, hn80, D, F, Pt, NA, NL, NC, Z, hall⟩
        · exact absurd h0 (by omega)
        obtain ⟨hop, hnl, hnode⟩ := hall k hkn2
        clear hall
        have e0 := (HB.out.cell hb).trans hop.c0
        have e1 := (HB.out.cell hb).trans hop.c1
        have e2 := (HB.out.cell hb).trans hop.c2
        have e3 := (HB.out.cell hb).trans hop.c3
        have e4 := (HB.out.cell hb).trans hop.c4
        clear hop
        have hLr : w.heap.size < wr.heap.size := by omega
        have A0 : ∀ o, (wr.alloc o).cell? ⟨w.heap.size, 0, none⟩ = some (.int .i64 q) := fun o => by rw [World.cell?_alloc_past _ _ _ hLr]; exact hq
        have A1 : ∀ o, (wr.alloc o).frozen? ⟨w.heap.size, 0, none⟩ = false := fun o => by rw [World.frozen?_alloc_past _ _ _ hLr]; exact hf
        have HN := Lib.hid hnode; clear hnode
        go_wp2_with fail
        have HBW : Below w.heap.size w ((wr.setCell ⟨w.heap.size, 0, none⟩ (Value.int IntKind.i64 (wrap64 (q - wrap64 (wrap64 (↑(Pt k).size + ↑(F k).size) + ↑(D k).size))))).alloc
            (Obj.cells #[Value.string (D k), Value.string (F k), Value.string (Pt k), Value.slice (NA k) (NL k) (NC k), Value.int IntKind.i64 (Z k)] 78)) := (HB.out.setCell (by show w.heap.size ≤ w.heap.size; omega) _).alloc (by simp [World.setCell]; omega) _
        refine (add_any _ _ _ _ _ _ _ (set_alloc hq hLr) (set_alloc_frozen hf hLr) (by simp [World.setCell]; omega) hnl ?_).mono ?_
        · rcases HN.out with h0 | ⟨nb, no, h1, h2, Kd, T, KA, KL, KC, h3⟩
          · exact .inl h0
          · exact .inr ⟨nb, no, h1, by simp [World.setCell]; omega, by omega, Kd, T, KA, KL, KC, fun i hi => (h3 i hi).below HBW h2⟩
        · rintro en w1 ⟨rfl, ⟨q1, hq1⟩, hf1, hBut⟩
          have r3 : w1.cell? ⟨w.heap.size + 1, 3, none⟩ = some (.slice (some ⟨b, off, none⟩) n oc) := (hBut.cell (by simp [World.setCell]; omega) (by simp)).trans (by rw [World.cell?_alloc_past _ _ _ (by simp [World.setCell]; omega), World.cell?_setCell_other _ _ _ _ (by intro e; rw [Addr.mk.injEq] at e; omega)]; exact hops)
          have r4 : w.heap.size + 2 ≤ w1.heap.size := Nat.le_trans (by simp [World.setCell]; omega) hBut.size
          have r5 : Below w.heap.size w w1 := HBW.trans (hBut.below (Nat.le_refl _) (by simp [World.setCell]; omega))
          have R5 := Lib.hid r5; clear r5
          clear hBut HBW A0 A1 HN HB hq hf hops e0 e1 e2 e3 e4
          go_wp2
          go_roundw
          case rel => exact ⟨k + 1, q1, by omega, by omega, by go_num, hq1, hf1, r3, r4, R5.out⟩
          case measure => simp [intOf]; omega
      · have hd : decide ((k : Int) < (70 : Int)) = false := decide_eq_false (by omega)
        go_wp2
        all_goals first
          | (refine ⟨rfl, _, results_tmp rfl _ _ _, ?_, HB.out⟩; first | exact ⟨_, rfl⟩ | exact .inl rfl | exact .inr rfl)
          | (rw [rounds_succ]
             go_wp2
             refine wp_loop_rounds 1 ?_
             rw [rounds_succ]
             go_wp2
             all_goals (refine ⟨rfl, _, results_tmp rfl _ _ _, ?_, HB.out⟩; first | exact ⟨_, rfl⟩ | exact .inl rfl | exact .inr rfl))
  · skip
    go_loopw [38] (fun i wr => ∃ (k : Nat) (q : Int), k ≤ n ∧ k ≤ 70 ∧ i = .int .i64 k ∧ wr.cell? ⟨w.heap.size, 0, none⟩ = some (.int .i64 q) ∧ wr.frozen? ⟨w.heap.size, 0, none⟩ = false ∧ wr.cell? ⟨w.heap.size + 1, 3, none⟩ = some (.slice oa n oc) ∧ w.heap.size + 2 ≤ wr.heap.size ∧ Below w.heap.size w wr) (fun i _ => 70 - (intOf i).toNat)
    case atStart =>
      refine ⟨0, 4000 - (rn : Int) / 4, Nat.zero_le _, by omega, rfl, ?_, ?_, ?_, ?_, ?_⟩
      · rw [World.cell?_alloc_past _ _ _ (by simp), World.cell?_alloc_at _ _ _ _ (by simp)]; rfl
      · rw [World.frozen?_alloc_past _ _ _ (by simp)]; exact World.frozen?_alloc_at _ _ _ _ (by simp)
      · rw [World.cell?_alloc_at _ _ _ _ (by simp)]; rfl
      · simp
      · exact ((Below.refl _ _).alloc (Nat.le_refl _) _).alloc (by simp) _
    case round =>
      obtain ⟨k, q, hkn, hk70, rfl, hq, hf, hops, hsz, hbel⟩ := hrel
      have HB := Lib.hid hbel; clear hbel
      clear a0 a1 a2 a3 a4 a5
      by_cases hlt : k < n
      · have hkn2 : k < n := by omega
        have hd : decide ((k : Int) < (n : Int)) = true := decide_eq_true (by omega)
        rcases hO'.out.at_ with h0 | ⟨b, off, rfl, hb, hn80, D, F, Pt, NA, NL, NC, Z, hall⟩
        · exact absurd h0 (by omega)
        obtain ⟨hop, hnl, hnode⟩ := hall k hkn2
        clear hall
        have e0 := (HB.out.cell hb).trans hop.c0
        have e1 := (HB.out.cell hb).trans hop.c1
        have e2 := (HB.out.cell hb).trans hop.c2
        have e3 := (HB.out.cell hb).trans hop.c3
        have e4 := (HB.out.cell hb).trans hop.c4
        clear hop
        have hLr : w.heap.size < wr.heap.size := by omega
        have A0 : ∀ o, (wr.alloc o).cell? ⟨w.heap.size, 0, none⟩ = some (.int .i64 q) := fun o => by rw [World.cell?_alloc_past _ _ _ hLr]; exact hq
        have A1 : ∀ o, (wr.alloc o).frozen? ⟨w.heap.size, 0, none⟩ = false := fun o => by rw [World.frozen?_alloc_past _ _ _ hLr]; exact hf
        have HN := Lib.hid hnode; clear hnode
        go_wp2_with fail
        have HBW : Below w.heap.size w ((wr.setCell ⟨w.heap.size, 0, none⟩ (Value.int IntKind.i64 (wrap64 (q - wrap64 (wrap64 (↑(Pt k).size + ↑(F k).size) + ↑(D k).size))))).alloc
            (Obj.cells #[Value.string (D k), Value.string (F k), Value.string (Pt k), Value.slice (NA k) (NL k) (NC k), Value.int IntKind.i64 (Z k)] 78)) := (HB.out.setCell (by show w.heap.size ≤ w.heap.size; omega) _).alloc (by simp [World.setCell]; omega) _
        refine (add_any _ _ _ _ _ _ _ (set_alloc hq hLr) (set_alloc_frozen hf hLr) (by simp [World.setCell]; omega) hnl ?_).mono ?_
        · rcases HN.out with h0 | ⟨nb, no, h1, h2, Kd, T, KA, KL, KC, h3⟩
          · exact .inl h0
          · exact .inr ⟨nb, no, h1, by simp [World.setCell]; omega, by omega, Kd, T, KA, KL, KC, fun i hi => (h3 i hi).below HBW h2⟩
        · rintro en w1 ⟨rfl, ⟨q1, hq1⟩, hf1, hBut⟩
          have r3 : w1.cell? ⟨w.heap.size + 1, 3, none⟩ = some (.slice (some ⟨b, off, none⟩) n oc) := (hBut.cell (by simp [World.setCell]; omega) (by simp)).trans (by rw [World.cell?_alloc_past _ _ _ (by simp [World.setCell]; omega), World.cell?_setCell_other _ _ _ _ (by intro e; rw [Addr.mk.injEq] at e; omega)]; exact hops)
          have r4 : w.heap.size + 2 ≤ w1.heap.size := Nat.le_trans (by simp [World.setCell]; omega) hBut.size
          have r5 : Below w.heap.size w w1 := HBW.trans (hBut.below (Nat.le_refl _) (by simp [World.setCell]; omega))
          have R5 := Lib.hid r5; clear r5
          clear hBut HBW A0 A1 HN HB hq hf hops e0 e1 e2 e3 e4
          go_wp2
          go_roundw
          case rel => exact ⟨k + 1, q1, by omega, by omega, by go_num, hq1, hf1, r3, r4, R5.out⟩
          case measure => simp [intOf]; omega
      · have hd : decide ((k : Int) < (n : Int)) = false := decide_eq_false (by omega)
        go_wp2
        all_goals first
          | (refine ⟨rfl, _, results_tmp rfl _ _ _, ?_, HB.out⟩; first | exact ⟨_, rfl⟩ | exact .inl rfl | exact .inr rfl)
          | (rw [rounds_succ]
             go_wp2
             refine wp_loop_rounds 1 ?_
             rw [rounds_succ]
             go_wp2
             all_goals (refine ⟨rfl, _, results_tmp rfl _ _ _, ?_, HB.out⟩; first | exact ⟨_, rfl⟩ | exact .inl rfl | exact .inr rfl))
end Go.Proofs.Zt
