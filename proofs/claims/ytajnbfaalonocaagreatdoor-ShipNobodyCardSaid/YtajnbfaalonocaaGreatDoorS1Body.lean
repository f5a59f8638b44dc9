/- What ShipNobody does, at whatever act. -/
import Derived.Test.YtajnbfaalonocaaGreatDoorS1Kin
import Derived.Test.YtajnbfaalonocaaGreatDoorS1Far
import Derived.Test.YtajnbfaalonocaaGreatDoorS1Oks
namespace Go.Proofs.Zt
open Go Go.RowKit
/-- What the machine needs of the world: one listed variable holds an error. -/
def Start (W : World) : Prop := ∃ c fr, W.heap[1]? = some (.cells c 203 fr) ∧ c.size = 1 ∧ ∃ u v, c[0]? = some (.iface u v)
theorem Start.below {w w' : World} (h : Start w) (hb : Below w.heap.size w w') : Start w' := by
  obtain ⟨c, fr, h1, h2⟩ := h
  exact ⟨c, fr, (hb.block 1 (heap_lt h1)).trans h1, h2⟩
theorem sim1 {W : World} (S : Start W) : Am.Sim Tryz.prog (Am.ren1 8 ⟨0, 0, 0, 0⟩) ⟨Am.mkT [(1, .glob (.puts .lf 0 [.any]) 203)], 3000⟩ W := by
  obtain ⟨c, fr, h1, h2, u, v, h3⟩ := S
  refine Am.simOf (fun y hy => ?_) (fun y hy z hz _ _ _ _ _ => ?_) (fun k hk => Am.ren1_gt (by omega)) (by rw [Am.sizeG1]; decide) Am.gl8
  · simp only [List.mem_singleton] at hy; subst hy
    refine ⟨by decide, _, _, Am.ren1_lt (by decide), h1, Am.glob_of_cells (n := 1) h1 fun i hi => ?_⟩
    obtain rfl : i = 0 := by omega
    exact ⟨_, by simpa using h3, rfl⟩
  · simp only [List.mem_singleton] at hy hz; subst hy; subst hz; rfl
theorem fn6 : Am.pg.fn.get 6 = some Tryz.f6 := by kernel_rfl
theorem alive_calls {w : World} (S : Start w) : Calls Tryz.prog 6 #[] w fun e w' => e = .returned (.bool true) ∧ Below w.heap.size w w' := by
  refine (Am.a13_ok.calls Am.fits fn6 (by kernel_rfl) (fun l o h => ?_) .nil (sim1 S)).mono ?_
  · have := Am.mkT_mem h
    simp only [List.mem_singleton, Prod.mk.injEq] at this
    exact ⟨_, _, this.2⟩
  · rintro en w' ⟨v', rfl, ⟨r', hr⟩, hb⟩
    cases hr
    exact ⟨rfl, hb⟩
/-- tx, at whatever ops. -/
theorem tx_any (id : Int) (oa : Option Addr) (n oc : Nat) (w : World) (hO : OpsAt w oa n) :
    Calls Tryz.prog 9 #[.agg #[.int .i64 id, .slice oa n oc]] w fun e w' => (∃ x y, e = .returned (.agg #[x, y]) ∧ x.oneCell' = true ∧ y.oneCell' = true) ∧ Below w.heap.size w w' := by
  rcases hO.at_ with rfl | ⟨b, off, rfl, hb, hn, D, F, Pt, NA, NL, NC, Z, hall⟩
  · exact tx_empty id oc oa w
  · exact tx_some id b off n oc D F Pt NA NL NC Z w hn hb fun k hk => (hall k hk).1
theorem OpsAt.below {w w' : World} {oa : Option Addr} {n : Nat} (h : OpsAt w oa n) (hb : Below w.heap.size w w') : OpsAt w' oa n := by
  refine ⟨h.len, ?_⟩
  rcases h.at_ with h0 | ⟨b, off, rfl, hlt, hn, D, F, Pt, NA, NL, NC, Z, hall⟩
  · exact .inl h0
  · refine .inr ⟨b, off, rfl, Nat.lt_of_lt_of_le hlt hb.size, hn, D, F, Pt, NA, NL, NC, Z, fun k hk => ?_⟩
    obtain ⟨hop, hnl, hnode⟩ := hall k hk
    refine ⟨⟨(hb.cell hlt).trans hop.c0, (hb.cell hlt).trans hop.c1, (hb.cell hlt).trans hop.c2, (hb.cell hlt).trans hop.c3, (hb.cell hlt).trans hop.c4⟩, hnl, ?_⟩
    rcases hnode with h0 | ⟨nb, no, h1, h2, Kd, T, KA, KL, KC, h3⟩
    · exact .inl h0
    · exact .inr ⟨nb, no, h1, Nat.lt_of_lt_of_le h2 hb.size, Kd, T, KA, KL, KC, fun i hi => ⟨(hb.cell h2).trans (h3 i hi).c0, (hb.cell h2).trans (h3 i hi).c1, (hb.cell h2).trans (h3 i hi).c2⟩⟩
end Go.Proofs.Zt
