/- What the closure in grommetlaw32.far does: it returns, and turns no block but its counter's. -/
import Derived.Test.YtajnbfaalonocaaGreatDoorS1Tx
namespace Go.Proofs.Zt
open Go Go.RowKit
/-- A node, in its three cells. -/
structure NodeAt (w : World) (b o : Nat) (kd : Int) (tx : ByteArray) (ka : Option Addr) (kl kc : Nat) : Prop where
  c0 : w.cell? ⟨b, o, none⟩ = some (.int .i64 kd)
  c1 : w.cell? ⟨b, o + 1, none⟩ = some (.string tx)
  c2 : w.cell? ⟨b, o + 2, none⟩ = some (.slice ka kl kc)
/-- All blocks that were there are as they were, but one. -/
structure But (L : Nat) (w w' : World) : Prop where
  os : w'.os = w.os
  tape : w'.tape = w.tape
  output : w'.output = w.output
  size : w.heap.size ≤ w'.heap.size
  block : ∀ k, k < w.heap.size → k ≠ L → w'.heap[k]? = w.heap[k]?
theorem But.refl (L : Nat) (w : World) : But L w w := ⟨rfl, rfl, rfl, Nat.le_refl _, fun _ _ _ => rfl⟩
theorem But.trans {L : Nat} {a b c : World} (h : But L a b) (k : But L b c) : But L a c :=
  ⟨k.os.trans h.os, k.tape.trans h.tape, k.output.trans h.output, Nat.le_trans h.size k.size, fun i hi hne => (k.block i (Nat.lt_of_lt_of_le hi h.size) hne).trans (h.block i hi hne)⟩
theorem But.alloc {L : Nat} {a w : World} (h : But L a w) (o : Obj) : But L a (w.alloc o) :=
  h.trans ⟨rfl, rfl, rfl, by simp, fun k hk _ => Below.heap_alloc _ _ _ hk⟩
theorem But.set {L : Nat} {a w : World} (h : But L a w) (o : Nat) (v : Value) : But L a (w.setCell ⟨L, o, none⟩ v) :=
  h.trans ⟨rfl, rfl, rfl, by simp [World.setCell], fun k _ hne => Below.heap_setCell _ _ _ _ hne⟩
theorem But.cell {L : Nat} {w w' : World} (h : But L w w') {p : Addr} (hp : p.block < w.heap.size) (hne : p.block ≠ L) : w'.cell? p = w.cell? p := World.cell?_of_block (w := w) (h.block p.block hp hne)
theorem But.frozen {L : Nat} {w w' : World} (h : But L w w') {p : Addr} (hp : p.block < w.heap.size) (hne : p.block ≠ L) : w'.frozen? p = w.frozen? p := World.frozen?_of_block (w := w) (h.block p.block hp hne)
theorem set_alloc {w : World} {L : Nat} {x v : Value} {o : Obj} (h : w.cell? ⟨L, 0, none⟩ = some x) (hs : L < w.heap.size) : ((w.setCell ⟨L, 0, none⟩ v).alloc o).cell? ⟨L, 0, none⟩ = some v := by
  rw [World.cell?_alloc_past _ _ _ (by show L < (w.setCell _ _).heap.size; simpa [World.setCell] using hs)]; exact World.cell?_setCell_same _ _ _ h
theorem set_alloc_frozen {w : World} {L : Nat} {v : Value} {o : Obj} (h : w.frozen? ⟨L, 0, none⟩ = false) (hs : L < w.heap.size) : ((w.setCell ⟨L, 0, none⟩ v).alloc o).frozen? ⟨L, 0, none⟩ = false := by
  rw [World.frozen?_alloc_past _ _ _ (by show L < (w.setCell _ _).heap.size; simpa [World.setCell] using hs)]; exact (World.frozen?_setCell _ _ _ _).trans h
set_option maxHeartbeats 800000 in
set_option maxRecDepth 1000000 in
theorem add_some (L b off nl nc : Nat) (q0 z : Int) (Kd : Nat → Int) (T : Nat → ByteArray) (KA : Nat → Option Addr) (KL KC : Nat → Nat) (w : World) (hL : w.cell? ⟨L, 0, none⟩ = some (.int .i64 q0)) (hLf : w.frozen? ⟨L, 0, none⟩ = false) (hLs : L < w.heap.size) (hb : b < w.heap.size) (hbL : b ≠ L) (hnl : nl ≤ 140737488355328)
    (hc : ∀ k, k < nl → nl ≤ 40 → NodeAt w b (off + k * 3) (Kd k) (T k) (KA k) (KL k) (KC k)) :
    Calls Tryz.prog 22 #[.agg #[.slice (some ⟨b, off, none⟩) nl nc, .int .i64 z], .pointer (some ⟨L, 0, none⟩)] w fun e w' => e = .returned (.tuple #[]) ∧ (∃ q, w'.cell? ⟨L, 0, none⟩ = some (.int .i64 q)) ∧ w'.frozen? ⟨L, 0, none⟩ = false ∧ But L w w' := by
  have hc' := Lib.hid hc; clear hc
  have A0 : ∀ o, (w.alloc o).cell? ⟨L, 0, none⟩ = some (.int .i64 q0) := fun o => by rw [World.cell?_alloc_past _ _ _ hLs]; exact hL
  have A1 : ∀ o, (w.alloc o).frozen? ⟨L, 0, none⟩ = false := fun o => by rw [World.frozen?_alloc_past _ _ _ hLs]; exact hLf
  by_cases h40 : 40 < nl
  · have hd : decide ((40 : Int) < (nl : Int)) = true := decide_eq_true (by omega)
    go_enter Tryz.func22, Tryz.ntmps22
    go_wp2
    exact ⟨rfl, .tuple #[], results_none rfl _ _ _, rfl, ⟨_, set_alloc hL hLs⟩, set_alloc_frozen hLf hLs, ((But.refl L w).set _ _).alloc _⟩
  · have hd : decide ((40 : Int) < (nl : Int)) = false := decide_eq_false (by omega)
    go_enter Tryz.func22, Tryz.ntmps22
    go_wp2
    go_loopw [12] (fun i wr => ∃ (k : Nat) (q : Int), k ≤ nl ∧ i = .int .i64 k ∧ wr.cell? ⟨L, 0, none⟩ = some (.int .i64 q) ∧ wr.frozen? ⟨L, 0, none⟩ = false ∧ But L w wr) (fun i _ => nl - (intOf i).toNat)
    case atStart => exact ⟨0, q0, Nat.zero_le _, rfl, A0 _, A1 _, (But.refl L w).alloc _⟩
    case round =>
      obtain ⟨k, q, hk, rfl, hq, hf, hB⟩ := hrel
      have HB := Lib.hid hB; clear hB
      clear A0 A1 hL hLf
      by_cases hlt : k < nl
      · have hN := hc'.out k hlt (by omega)
        have e0 := (HB.out.cell hb hbL).trans hN.c0
        have e1 := (HB.out.cell hb hbL).trans hN.c1
        have e2 := (HB.out.cell hb hbL).trans hN.c2
        clear hN
        have hLr : L < wr.heap.size := Nat.lt_of_lt_of_le hLs HB.out.size
        have hd2 : decide ((k : Int) < (nl : Int)) = true := decide_eq_true (by omega)
        have A0 : ∀ o, (wr.alloc o).cell? ⟨L, 0, none⟩ = some (.int .i64 q) := fun o => by rw [World.cell?_alloc_past _ _ _ hLr]; exact hq
        have A1 : ∀ o, (wr.alloc o).frozen? ⟨L, 0, none⟩ = false := fun o => by rw [World.frozen?_alloc_past _ _ _ hLr]; exact hf
        go_wp2
        go_roundw
        case rel => exact ⟨k + 1, _, by omega, by go_num, set_alloc hq hLr, set_alloc_frozen hf hLr, (HB.out.set _ _).alloc _⟩
        case measure => simp [intOf]; omega
      · have hd2 : decide ((k : Int) < (nl : Int)) = false := decide_eq_false (by omega)
        go_wp2
        exact ⟨rfl, .tuple #[], results_none rfl _ _ _, rfl, ⟨_, hq⟩, hf, HB.out⟩
set_option maxHeartbeats 800000 in
set_option maxRecDepth 1000000 in
theorem add_zero (L nc : Nat) (na : Option Addr) (q0 z : Int) (w : World) (hL : w.cell? ⟨L, 0, none⟩ = some (.int .i64 q0)) (hLf : w.frozen? ⟨L, 0, none⟩ = false) (hLs : L < w.heap.size) :
    Calls Tryz.prog 22 #[.agg #[.slice na 0 nc, .int .i64 z], .pointer (some ⟨L, 0, none⟩)] w fun e w' => e = .returned (.tuple #[]) ∧ (∃ q, w'.cell? ⟨L, 0, none⟩ = some (.int .i64 q)) ∧ w'.frozen? ⟨L, 0, none⟩ = false ∧ But L w w' := by
  have A0 : ∀ o, (w.alloc o).cell? ⟨L, 0, none⟩ = some (.int .i64 q0) := fun o => by rw [World.cell?_alloc_past _ _ _ hLs]; exact hL
  have A1 : ∀ o, (w.alloc o).frozen? ⟨L, 0, none⟩ = false := fun o => by rw [World.frozen?_alloc_past _ _ _ hLs]; exact hLf
  go_enter Tryz.func22, Tryz.ntmps22
  go_wp2
  refine wp_loop_rounds 1 ?_
  rw [rounds_succ]
  go_wp2
  exact ⟨rfl, .tuple #[], results_none rfl _ _ _, rfl, ⟨_, A0 _⟩, A1 _, (But.refl L w).alloc _⟩
set_option maxHeartbeats 800000 in
set_option maxRecDepth 1000000 in
theorem tx_empty (id : Int) (cap : Nat) (ao : Option Addr) (w : World) : Calls Tryz.prog 9 #[.agg #[.int .i64 id, .slice ao 0 cap]] w fun e w' => (∃ x y, e = .returned (.agg #[x, y]) ∧ x.oneCell' = true ∧ y.oneCell' = true) ∧ Below w.heap.size w w' := by
  go_enter Tryz.func9, Tryz.ntmps9
  go_wp2
  refine wp_loop_rounds 1 ?_
  rw [rounds_succ]
  go_wp2
  refine ⟨rfl, .agg #[.int .i64 id, .slice none 0 0], results_cell_struct2 _ (w.heap.size + 1) _ _ ?_ ?_, ⟨_, _, rfl, rfl, rfl⟩, (((Below.refl _ _).alloc (Nat.le_refl _) _).alloc (by simp) _).alloc (by simp; omega) _⟩
  · rw [World.cell?_alloc_past _ _ _ (by simp), World.cell?_alloc_at _ _ _ _ (by simp)]; rfl
  · rw [World.cell?_alloc_past _ _ _ (by simp), World.cell?_alloc_at _ _ _ _ (by simp)]; rfl
theorem add_any (L nl nc : Nat) (na : Option Addr) (q0 z : Int) (w : World) (hL : w.cell? ⟨L, 0, none⟩ = some (.int .i64 q0)) (hLf : w.frozen? ⟨L, 0, none⟩ = false) (hLs : L < w.heap.size) (hnl : nl ≤ 140737488355328)
    (hN : nl = 0 ∨ ∃ nb no, na = some ⟨nb, no, none⟩ ∧ nb < w.heap.size ∧ nb ≠ L ∧ ∃ (Kd : Nat → Int) (T : Nat → ByteArray) (KA : Nat → Option Addr) (KL KC : Nat → Nat), ∀ i, i < nl → NodeAt w nb (no + i * 3) (Kd i) (T i) (KA i) (KL i) (KC i)) :
    Calls Tryz.prog 22 #[.agg #[.slice na nl nc, .int .i64 z], .pointer (some ⟨L, 0, none⟩)] w fun e w' => e = .returned (.tuple #[]) ∧ (∃ q, w'.cell? ⟨L, 0, none⟩ = some (.int .i64 q)) ∧ w'.frozen? ⟨L, 0, none⟩ = false ∧ But L w w' := by
  rcases hN with rfl | ⟨nb, no, rfl, h1, h2, Kd, T, KA, KL, KC, h3⟩
  · exact add_zero L nc na q0 z w hL hLf hLs
  · exact add_some L nb no nl nc q0 z Kd T KA KL KC w hL hLf hLs h1 h2 hnl fun k hk _ => h3 k hk
theorem NodeAt.below {w w' : World} {B b o : Nat} {kd : Int} {tx : ByteArray} {ka : Option Addr} {kl kc : Nat} (h : NodeAt w b o kd tx ka kl kc) (hB : Below B w w') (hb : b < B) : NodeAt w' b o kd tx ka kl kc :=
  ⟨(hB.cell hb).trans h.c0, (hB.cell hb).trans h.c1, (hB.cell hb).trans h.c2⟩
theorem But.below {L B : Nat} {w w' : World} (h : But L w w') (hL : B ≤ L) (hB : B ≤ w.heap.size) : Below B w w' := ⟨h.os, h.tape, h.output, h.size, fun k hk => h.block k (by omega) (by omega)⟩
end Go.Proofs.Zt
