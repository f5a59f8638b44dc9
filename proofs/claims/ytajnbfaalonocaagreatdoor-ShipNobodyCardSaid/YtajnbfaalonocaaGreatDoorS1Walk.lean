/- What ShipNobody does, at whatever act. -/
import Derived.Test.YtajnbfaalonocaaGreatDoorS1Body
namespace Go.Proofs.Zt
open Go Go.RowKit
theorem lead_alloc (w : World) (o : Obj) : LeadAt ((w.alloc (Obj.cells #[Value.int IntKind.i64 0, Value.slice none 0 0, Value.slice none 0 0] 35)).alloc o) (.pointer (some ⟨w.heap.size, 0, none⟩)) :=
  .inr ⟨_, (0, 0), rfl, by rw [Below.heap_alloc _ _ _ (by simp)]; show (w.heap.push _)[w.heap.size]? = _; simp⟩
theorem follow_alloc (w : World) (o : Obj) : FollowAt ((w.alloc (Obj.cells #[Value.int IntKind.i64 0, Value.slice none 0 0] 50)).alloc o) (.pointer (some ⟨w.heap.size, 0, none⟩)) :=
  .inr ⟨_, (0, 0), rfl, by rw [Below.heap_alloc _ _ _ (by simp)]; show (w.heap.push _)[w.heap.size]? = _; simp⟩
set_option maxHeartbeats 1600000 in
set_option maxRecDepth 1000000 in
theorem body_calls (n oc rn rc : Nat) (kd nn id by_ : Int) (oa ra : Option Addr) (w : World) (hrn : rn ≤ 140737488355328) (hrc : rn ≤ rc) (hoc : n ≤ oc) (hO : OpsAt w oa n) (S : Start w) :
    Calls Tryz.prog 3 #[.agg #[.int .u8 kd, .int .i64 nn, .int .i64 id, .slice oa n oc, .slice ra rn rc, .int .u8 by_]] w fun e w' => e = .returned (.bool true) ∧ Below w.heap.size w w' := by
  have hO' := Lib.hid hO; clear hO
  have hS := Lib.hid S; clear S
  go_enter Tryz.func3, Tryz.ntmps3
  go_wp2_with fail
  have hB0 : Below w.heap.size w ((w.alloc (Obj.cells #[Value.int IntKind.u8 kd, Value.int IntKind.i64 nn, Value.int IntKind.i64 id, Value.slice oa n oc, Value.slice ra rn rc, Value.int IntKind.u8 by_] 27)).alloc (Obj.cells #[Value.int IntKind.u8 kd, Value.int IntKind.i64 nn, Value.int IntKind.i64 id, Value.slice oa n oc, Value.slice ra rn rc, Value.int IntKind.u8 by_] 27)) := ((Below.refl _ _).alloc (Nat.le_refl _) _).alloc (by simp) _
  refine (far_one (w.heap.size + 1) n oc rn rc kd nn id by_ oa ra _ (by simp) hrn hrc hoc (by rw [World.cell?_alloc_at _ _ _ _ (by simp)]; rfl) (by rw [World.cell?_alloc_at _ _ _ _ (by simp)]; rfl) (by rw [World.cell?_alloc_at _ _ _ _ (by simp)]; rfl) (by rw [World.cell?_alloc_at _ _ _ _ (by simp)]; rfl) (by rw [World.cell?_alloc_at _ _ _ _ (by simp)]; rfl) (by rw [World.cell?_alloc_at _ _ _ _ (by simp)]; rfl) (hO'.out.below hB0)).mono ?_
  rintro en w1 ⟨⟨x, rfl⟩, hB⟩
  have hs1 : w.heap.size + 2 ≤ w1.heap.size := Nat.le_trans (by simp) hB.size
  have f1 : w1.cell? ⟨w.heap.size, 1, none⟩ = some (.int .i64 nn) := (hB.cell (by simp; omega)).trans (by rw [World.cell?_alloc_past _ _ _ (by simp), World.cell?_alloc_at _ _ _ _ (by simp)]; rfl)
  have f2 : w1.cell? ⟨w.heap.size, 2, none⟩ = some (.int .i64 id) := (hB.cell (by simp; omega)).trans (by rw [World.cell?_alloc_past _ _ _ (by simp), World.cell?_alloc_at _ _ _ _ (by simp)]; rfl)
  have f3 : w1.cell? ⟨w.heap.size, 3, none⟩ = some (.slice oa n oc) := (hB.cell (by simp; omega)).trans (by rw [World.cell?_alloc_past _ _ _ (by simp), World.cell?_alloc_at _ _ _ _ (by simp)]; rfl)
  have f4 : w1.cell? ⟨w.heap.size, 4, none⟩ = some (.slice ra rn rc) := (hB.cell (by simp; omega)).trans (by rw [World.cell?_alloc_past _ _ _ (by simp), World.cell?_alloc_at _ _ _ _ (by simp)]; rfl)
  have hB1 := Lib.hid (hB0.trans (hB.mono (by simp; omega)))
  clear hB hB0
  cases x
  · skip
    go_wp2_with fail
    have hwl : ∃ wl, wl = (w1.alloc (Obj.cells #[Value.int IntKind.i64 0, Value.slice none 0 0, Value.slice none 0 0] 35)).alloc (Obj.cells #[Value.pointer none, Value.pointer (some ⟨w1.heap.size, 0, none⟩)] 31) := ⟨_, rfl⟩
    obtain ⟨wl, hwl⟩ := hwl
    rw [← hwl]
    have hb1 : Below w1.heap.size w1 wl := by rw [hwl]; exact ((Below.refl _ _).alloc (Nat.le_refl _) _).alloc (by simp) _
    have hs2 : w1.heap.size + 2 = wl.heap.size := by rw [hwl]; simp
    have hld : LeadAt wl (.pointer (some ⟨w1.heap.size, 0, none⟩)) := by rw [hwl]; exact lead_alloc _ _
    have ha0 : wl.cell? ⟨w1.heap.size + 1, 0, none⟩ = some (.pointer none) := by rw [hwl, World.cell?_alloc_at _ _ _ _ (by simp)]; rfl
    have ha1 : wl.cell? ⟨w1.heap.size + 1, 1, none⟩ = some (.pointer (some ⟨w1.heap.size, 0, none⟩)) := by rw [hwl, World.cell?_alloc_at _ _ _ _ (by simp)]; rfl
    clear hwl
    have f1 := (hb1.cell (by simp; omega)).trans f1
    have f2 := (hb1.cell (by simp; omega)).trans f2
    have f3 := (hb1.cell (by simp; omega)).trans f3
    have f4 := (hb1.cell (by simp; omega)).trans f4
    have hB2 := Lib.hid (hB1.out.trans (hb1.mono (by omega)))
    clear hb1 hB1
    go_loopw [19] (fun i wr => ∃ (k : Nat), k ≤ 2 ∧ i = .int .i64 k ∧ Below wl.heap.size wl wr) (fun i _ => 2 - (intOf i).toNat)
    case atStart => exact ⟨0, by omega, rfl, Below.refl _ _⟩
    case round =>
      obtain ⟨k, hk, rfl, hB⟩ := hrel
      by_cases hlt : k < 2
      · have hd : decide ((k : Int) < (2 : Int)) = true := decide_eq_true (by omega)
        obtain ⟨l, hl0, hl1⟩ : ∃ l, wr.cell? ⟨w1.heap.size + 1, k, none⟩ = some l ∧ LeadAt wr l := by
          rcases Nat.lt_or_ge k 1 with h | h
          · obtain rfl : k = 0 := by omega
            exact ⟨_, (hB.cell (by simp; omega)).trans ha0, .inl rfl⟩
          · obtain rfl : k = 1 := by omega
            exact ⟨_, (hB.cell (by simp; omega)).trans ha1, hld.below hB⟩
        have g1 := (hB.cell (by simp; omega)).trans f1
        have g2 := (hB.cell (by simp; omega)).trans f2
        have g3 := (hB.cell (by simp; omega)).trans f3
        have g4 := (hB.cell (by simp; omega)).trans f4
        have hs3 := hB.size
        have HB := Lib.hid hB; clear hB
        have HL := Lib.hid hl1; clear hl1
        clear f1 f2 f3 f4 ha0 ha1 hld
        go_wp2_with fail
        refine (kin_ans HL.out rfl).mono ?_
        rintro en w2 ⟨rfl, hb⟩
        have g1 := (hb.cell (by simp; omega)).trans g1
        have g2 := (hb.cell (by simp; omega)).trans g2
        have g3 := (hb.cell (by simp; omega)).trans g3
        have hs3 := hb.size
        have HB := Lib.hid (HB.out.trans (hb.mono (by omega)))
        have HL := Lib.hid (HL.out.below hb)
        clear hb g4
        go_wp2_with fail
        refine (tx_any id oa n oc _ (hO'.out.below (hB2.out.trans (HB.out.mono (by omega))))).mono ?_
        rintro en w3 ⟨⟨x, y, rfl, hx, hy⟩, hb⟩
        have g1 := (hb.cell (by simp; omega)).trans g1
        have hs3 := Nat.le_trans hs3 hb.size
        have HB := Lib.hid (HB.out.trans (hb.mono (by omega)))
        have HL := Lib.hid (HL.out.below hb)
        clear hb g2 g3
        go_wp2_with fail
        refine (kin_add HL.out hx hy).mono ?_
        rintro en w4 ⟨rfl, hb⟩
        have g1 := (hb.cell (by simp; omega)).trans g1
        have hs3 := Nat.le_trans hs3 hb.size
        have HB := Lib.hid (HB.out.trans (hb.mono (by omega)))
        have HL := Lib.hid (HL.out.below hb)
        clear hb hx hy
        go_wp2_with fail
        refine (kin_cut HL.out rfl).mono ?_
        rintro en w5 ⟨rfl, hb⟩
        have hs3 := Nat.le_trans hs3 hb.size
        have HB := Lib.hid (HB.out.trans (hb.mono (by omega)))
        have HL := Lib.hid (HL.out.below hb)
        clear hb g1
        go_wp2_with fail
        refine (kin_next HL.out).mono ?_
        rintro en w6 ⟨rfl, hb⟩
        have hs3 := Nat.le_trans hs3 hb.size
        have HB := Lib.hid (HB.out.trans (hb.mono (by omega)))
        have HL := Lib.hid (HL.out.below hb)
        clear hb
        go_wp2_with fail
        refine (kin_files HL.out).mono ?_
        rintro en w7 ⟨rfl, hb⟩
        have hs3 := Nat.le_trans hs3 hb.size
        have HB := Lib.hid (HB.out.trans (hb.mono (by omega)))
        have HL := Lib.hid (HL.out.below hb)
        clear hb
        go_wp2_with fail
        go_roundw
        case rel => exact ⟨k + 1, by omega, by go_num, HB.out⟩
        case measure => simp [intOf]; omega
      · have hd : decide ((k : Int) < (2 : Int)) = false := decide_eq_false (by omega)
        go_wp2_with fail
        clear hd hlt hk ha0 ha1 hld f1 f2 f3
        have f5 := (hB.cell (by simp; omega)).trans f4
        have hB3 := Lib.hid (hB2.out.trans (hB.mono (by omega)))
        have hsz : wl.heap.size ≤ wr.heap.size := hB.size
        clear hB hB2 f4
        have hwl : ∃ wq, wq = (wr.alloc (Obj.cells #[Value.int IntKind.i64 0, Value.slice none 0 0] 50)).alloc (Obj.cells #[Value.pointer none, Value.pointer (some ⟨wr.heap.size, 0, none⟩)] 48) := ⟨_, rfl⟩
        obtain ⟨wq, hwl⟩ := hwl
        rw [← hwl]
        have hb1 : Below wr.heap.size wr wq := by rw [hwl]; exact ((Below.refl _ _).alloc (Nat.le_refl _) _).alloc (by simp) _
        have hs2 : wr.heap.size + 2 = wq.heap.size := by rw [hwl]; simp
        have hld : FollowAt wq (.pointer (some ⟨wr.heap.size, 0, none⟩)) := by rw [hwl]; exact follow_alloc _ _
        have ha0 : wq.cell? ⟨wr.heap.size + 1, 0, none⟩ = some (.pointer none) := by rw [hwl, World.cell?_alloc_at _ _ _ _ (by simp)]; rfl
        have ha1 : wq.cell? ⟨wr.heap.size + 1, 1, none⟩ = some (.pointer (some ⟨wr.heap.size, 0, none⟩)) := by rw [hwl, World.cell?_alloc_at _ _ _ _ (by simp)]; rfl
        clear hwl
        have f6 := (hb1.cell (by simp; omega)).trans f5
        have hB4 := Lib.hid (hB3.out.trans (hb1.mono (by omega)))
        clear hb1 hB3 f5
        obtain ⟨wx, hax⟩ : ∃ wx : World, wx = wr := ⟨_, rfl⟩
        subst hax
        go_loopw [68] (fun i wr' => ∃ (k : Nat), k ≤ 2 ∧ i = .int .i64 k ∧ Below wq.heap.size wq wr') (fun i _ => 2 - (intOf i).toNat)
        case atStart => exact ⟨0, by omega, rfl, Below.refl _ _⟩
        case round =>
          obtain ⟨k, hk, rfl, hB⟩ := hrel
          by_cases hlt : k < 2
          · have hd : decide ((k : Int) < (2 : Int)) = true := decide_eq_true (by omega)
            obtain ⟨l, hl0, hl1⟩ : ∃ l, wr.cell? ⟨wx.heap.size + 1, k, none⟩ = some l ∧ FollowAt wr l := by
              rcases Nat.lt_or_ge k 1 with h | h
              · obtain rfl : k = 0 := by omega
                exact ⟨_, (hB.cell (by simp; omega)).trans ha0, .inl rfl⟩
              · obtain rfl : k = 1 := by omega
                exact ⟨_, (hB.cell (by simp; omega)).trans ha1, hld.below hB⟩
            have g4 := (hB.cell (by simp; omega)).trans f6
            have hs3 := hB.size
            have HB := Lib.hid hB; clear hB
            have HL := Lib.hid hl1; clear hl1
            clear f6 ha0 ha1 hld
            go_wp2_with fail
            refine (kin_take HL.out rfl).mono ?_
            rintro en w2 ⟨rfl, hb⟩
            have hs3 := Nat.le_trans hs3 hb.size
            have HB := Lib.hid (HB.out.trans (hb.mono (by omega)))
            have HL := Lib.hid (HL.out.below hb)
            clear hb g4
            go_wp2_with fail
            refine (kin_ask HL.out).mono ?_
            rintro en w3 ⟨rfl, hb⟩
            have hs3 := Nat.le_trans hs3 hb.size
            have HB := Lib.hid (HB.out.trans (hb.mono (by omega)))
            have HL := Lib.hid (HL.out.below hb)
            clear hb
            go_wp2_with fail
            refine (kin_fnext HL.out).mono ?_
            rintro en w4 ⟨rfl, hb⟩
            have hs3 := Nat.le_trans hs3 hb.size
            have HB := Lib.hid (HB.out.trans (hb.mono (by omega)))
            have HL := Lib.hid (HL.out.below hb)
            clear hb
            go_wp2_with fail
            refine (kin_ffiles HL.out).mono ?_
            rintro en w5 ⟨rfl, hb⟩
            have hs3 := Nat.le_trans hs3 hb.size
            have HB := Lib.hid (HB.out.trans (hb.mono (by omega)))
            have HL := Lib.hid (HL.out.below hb)
            clear hb
            go_wp2_with fail
            go_roundw
            case rel => exact ⟨k + 1, by omega, by go_num, HB.out⟩
            case measure => simp [intOf]; omega
          · have hd : decide ((k : Int) < (2 : Int)) = false := decide_eq_false (by omega)
            clear ha0 ha1 hld f6
            have HB := Lib.hid hB; clear hB
            go_wp2_with fail
            have hb3 := hB4.out.trans (HB.out.mono (by omega))
            refine (alive_calls (hS.out.below hb3)).mono ?_
            rintro en w2 ⟨rfl, hb2⟩
            go_wp2
            exact ⟨rfl, _, results_tmp rfl _ _ _, rfl, hb3.trans (hb2.mono (Nat.le_trans (by omega) HB.out.size))⟩
  · skip
    go_wp2_with fail
    refine (alive_calls (hS.out.below hB1.out)).mono ?_
    rintro en w2 ⟨rfl, hb2⟩
    go_wp2
    exact ⟨rfl, _, results_tmp rfl _ _ _, rfl, hB1.out.trans (hb2.mono (by omega))⟩
end Go.Proofs.Zt
