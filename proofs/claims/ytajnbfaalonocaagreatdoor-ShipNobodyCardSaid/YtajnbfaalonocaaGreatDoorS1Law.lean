/- For every input the law grommetlaw32.ShipNobody returns true, and its argument reads as it did; its listed variables start as the program's text lays them. -/
import Derived.Test.YtajnbfaalonocaaGreatDoorS1Walk
import Derived.Test.YtajnbfaalonocaaGreatDoorS1Open
import Derived.Test.YtajnbfaalonocaaGreatDoorS1Facts
import Derived.Test.YtajnbfaalonocaaGreatDoorCards
import Derived.Test.YtajnbfaalonocaaGreatDoorTie
namespace Go.Proofs.YtajnbfaalonocaaGreatDoor
open Go Go.ChangeShapes Go.WideShapes Go.ChangeAt Go.RowKit
set_option maxRecDepth 100000
theorem start {W : World} (hL : laidMetH Tryz.prog Rows.shipNobodyRow.laid W) (hsh : W.ShapedOpen Tryz.prog) : Zt.Start W := by
  obtain ⟨c, e, fr, u, v, h1, h2⟩ := Am.laid_iface hL laidErr (by rfl) gErr tErr Tryz.underlying203
  obtain ⟨cs, h3, h4, -⟩ := hsh.1 1 _ _ (by rw [sizeG]; decide) zErr
  rw [h3] at h1
  simp only [Option.some.injEq, Obj.cells.injEq] at h1
  obtain ⟨rfl, rfl, rfl⟩ := h1
  exact ⟨cs, _, h3, h4, u, v, h2⟩
theorem contract (H : Type) (enc : TypeId × Value → H) (W : World) (base : Nat) (args : Array Value) (ds gs : List (DataW H)) (before : List MemPlace)
    (hval : ∀ (j : Nat) t v, Tryz.f3.params[j]? = some t → args[j]? = some v → Value.okWide Tryz.prog W .any base t v)
    (hW : DataW.Whole enc Tryz.prog Tryz.f3.params.toList Rows.shipNobodySpec.vars false W args.toList ds gs before)
    (hwt : (DataW.weightsEach Tryz.prog (Tryz.f3.params.toList ++ (OpenSpec.ofChange Rows.shipNobodySpec).bare.plain.varTypes Tryz.prog) (ds ++ gs)).all (· ≤ reachBytes) = true)
    (hL : laidMetH Tryz.prog Rows.shipNobodyRow.laid W) (hsh : W.ShapedOpen Tryz.prog) :
    Calls Tryz.prog 3 args W fun e W' => ∃ v, e = .returned v ∧ Rows.shipNobodySpec.post enc Tryz.prog Tryz.f3 false true false false W args v W' := by
  have hW' := hW
  obtain ⟨p, q, hA0, hV, rfl, hfz, hnd⟩ := hW
  have hA : DataW.TrodAll enc Tryz.prog W 0 (fun _ => true) true Tryz.f3.params.toList args.toList ds p := hA0
  rw [Tryz.params3] at hA hval hwt
  obtain ⟨v0, vs0, d0, ds0, p0, q0, hargs, rfl, rfl, h0, r0⟩ := trodAll_cons hA
  obtain ⟨rfl, rfl, rfl⟩ := trodAll_nil r0
  obtain rfl : args = #[v0] := by cases args; simp_all
  obtain ⟨rfl, rfl⟩ := trodVars_none hV
  have hf : Zt.Fit 27 d0 := fun n hn => by
    have := List.all_eq_true.1 hwt n (DataW.weights_mem_each (j := 0) (t := 27) (d := d0) rfl rfl n hn)
    simpa using this
  obtain ⟨n, oc, rn, rc, kd, nn, id, by_, oa, ra, rfl, h1, h2, h3, h4⟩ := Zt.act_open (hval 0 27 v0 rfl rfl) h0 hf
  refine (Zt.body_calls n oc rn rc kd nn id by_ oa ra W h1 h2 h3 h4 (start hL hsh)).mono fun e W' ⟨he, hb⟩ => ?_
  subst he
  exact ⟨_, rfl, Am.law_post hW' rfl laidOut params_ok hb rfl Tryz.underlying4 rfl⟩
end Go.Proofs.YtajnbfaalonocaaGreatDoor
