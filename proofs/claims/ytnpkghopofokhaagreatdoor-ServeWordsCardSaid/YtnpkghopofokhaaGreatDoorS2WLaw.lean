/- For every line the law grommetlaw33.ServeWords returns true, and its argument reads as it did; its listed variables start as the program's text lays them. -/
import Derived.Test.YtnpkghopofokhaaGreatDoorS2WFacts
import Derived.Test.YtnpkghopofokhaaGreatDoorAmRow
import Derived.Test.YtnpkghopofokhaaGreatDoorCards
import Derived.Test.YtnpkghopofokhaaGreatDoorTie
namespace Go.Proofs.YtnpkghopofokhaaGreatDoor
open Go Go.ChangeShapes Go.WideShapes Go.ChangeAt Go.RowKit
set_option maxRecDepth 100000
theorem startW {W : World} (hL : laidMetH Tryz.prog Rows.serveWordsRow.laid W) (hsh : W.ShapedOpen Tryz.prog) : Zw.Start W := by
  obtain ⟨c, e, fr, u, v, h1, h2⟩ := Am.laid_iface hL laidErrW (by rfl) gErr tErr Tryz.underlying178
  obtain ⟨cs, h3, h4, -⟩ := hsh.1 4 _ _ (by rw [sizeG]; decide) zErr
  rw [h3] at h1
  simp only [Option.some.injEq, Obj.cells.injEq] at h1
  obtain ⟨rfl, rfl, rfl⟩ := h1
  exact ⟨cs, _, h3, h4, u, v, h2⟩
theorem contractW (H : Type) (enc : TypeId × Value → H) (W : World) (base : Nat) (args : Array Value) (ds gs : List (DataW H)) (before : List MemPlace)
    (hval : ∀ (j : Nat) t v, Tryz.f4.params[j]? = some t → args[j]? = some v → Value.okWide Tryz.prog W .any base t v)
    (hW : DataW.Whole enc Tryz.prog Tryz.f4.params.toList Rows.serveWordsSpec.vars false W args.toList ds gs before) (hL : laidMetH Tryz.prog Rows.serveWordsRow.laid W) (hsh : W.ShapedOpen Tryz.prog) :
    Calls Tryz.prog 4 args W fun e W' => ∃ v, e = .returned v ∧ Rows.serveWordsSpec.post enc Tryz.prog Tryz.f4 false true false false W args v W' := by
  have hW' := hW
  obtain ⟨p, q, hA0, hV, rfl, hfz, hnd⟩ := hW
  have hA : DataW.TrodAll enc Tryz.prog W 0 (fun _ => true) true Tryz.f4.params.toList args.toList ds p := hA0
  rw [Tryz.params4] at hA hval
  obtain ⟨v0, vs0, d0, ds0, p0, q0, hargs, rfl, rfl, h0, r0⟩ := trodAll_cons hA
  obtain ⟨rfl, rfl, rfl⟩ := trodAll_nil r0
  obtain rfl : args = #[v0] := by cases args; simp_all
  obtain ⟨rfl, rfl⟩ := trodVars_none hV
  obtain ⟨s, rfl⟩ := okWide_string Tryz.underlying9 (hval 0 9 v0 rfl rfl)
  refine (Zw.body_calls s W (startW hL hsh)).mono fun e W' ⟨he, hb⟩ => ?_
  subst he
  exact ⟨_, rfl, Am.law_post hW' rfl laidOut params_okW hb rfl Tryz.underlying4 rfl⟩
end Go.Proofs.YtnpkghopofokhaaGreatDoor
