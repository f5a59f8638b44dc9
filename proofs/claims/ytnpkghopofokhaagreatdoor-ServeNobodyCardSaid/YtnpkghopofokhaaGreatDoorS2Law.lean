/- For every input the law grommetlaw33.ServeNobody returns true, and its argument reads as it did; its listed variables start as the program's text lays them. -/
import Derived.Test.YtnpkghopofokhaaGreatDoorS2NbAll
import Derived.Test.YtnpkghopofokhaaGreatDoorS2Oks
import Derived.Test.YtnpkghopofokhaaGreatDoorS2Facts
import Derived.Test.YtnpkghopofokhaaGreatDoorAmRow
import Derived.Test.YtnpkghopofokhaaGreatDoorCards
import Derived.Test.YtnpkghopofokhaaGreatDoorTie
namespace Go.Proofs.YtnpkghopofokhaaGreatDoor
open Go Go.ChangeShapes Go.WideShapes Go.ChangeAt Go.RowKit
set_option maxRecDepth 100000

/-- What the machine needs of the world: one listed variable holds an error. -/
structure Start (W : World) : Prop where
  four : ∃ c fr, W.heap[4]? = some (.cells c 178 fr) ∧ c.size = 1 ∧ ∃ u v, c[0]? = some (.iface u v)
theorem start {W : World} (hL : laidMetH Tryz.prog Rows.serveNobodyRow.laid W) (hsh : W.ShapedOpen Tryz.prog) : Start W := by
  obtain ⟨c, e, fr, u, v, h1, h2⟩ := Am.laid_iface hL laidErr (by rfl) gErr tErr Tryz.underlying178
  obtain ⟨cs, h3, h4, -⟩ := hsh.1 4 _ _ (by rw [sizeG]; decide) zErr
  rw [h3] at h1
  simp only [Option.some.injEq, Obj.cells.injEq] at h1
  obtain ⟨rfl, rfl, rfl⟩ := h1
  exact ⟨cs, _, h3, h4, u, v, h2⟩
theorem gl8 {x : Am.Loc} : ∀ g, g < Tryz.prog.globals.size → ∃ loc, Am.ren1 8 x g = some loc ∧ loc.blk = g ∧ loc.off = 0 := fun g hg => by
  rw [sizeG] at hg; exact ⟨_, Am.ren1_lt hg, rfl, rfl⟩
theorem obj4 {W : World} (S : Start W) {x : Am.Loc} : ∃ loc m, Am.ren1 8 x 4 = some loc ∧ W.heap[loc.blk]? = some m ∧ Am.ObjR Tryz.prog (Am.ren1 8 x) loc (.glob (.puts .lf 0 [.any]) 178) m := by
  obtain ⟨c, fr, h1, h2, u, v, h3⟩ := S.four
  exact ⟨_, _, Am.ren1_lt (by decide), h1, Am.glob_of_cells (n := 1) h1 fun i hi => by
    obtain rfl : i = 0 := by omega
    exact ⟨_, by simpa using h3, rfl⟩⟩
theorem sim4 {W : World} (S : Start W) (x : Am.Loc) : Am.Sim Tryz.prog (Am.ren1 8 x) ⟨Am.mkT [(4, .glob (.puts .lf 0 [.any]) 178)], 9⟩ W := by
  refine Am.simOf (fun y hy => ?_) (fun y hy z hz _ _ _ _ _ => ?_) (fun k hk => Am.ren1_gt (by omega)) (by rw [sizeG]; decide) gl8
  · simp only [List.mem_singleton] at hy; subst hy
    exact ⟨by decide, obj4 S⟩
  · simp only [List.mem_singleton] at hy hz; subst hy; subst hz; rfl
theorem sim48 {W : World} (S : Start W) {blk off n lim esz e : Nat} {c : Array Value} {fr : Nat × Nat} (hb : W.heap[blk]? = some (.cells c e fr)) (hc : ∀ i, i < n → ∃ s, c[off + i]? = some (.string s)) (hn : 1 ≤ n) :
    Am.Sim Tryz.prog (Am.ren1 8 ⟨blk, off, lim, esz⟩) ⟨Am.mkT [(4, .glob (.puts .lf 0 [.any]) 178), (8, .glob (Am.T.lf.puts 0 (List.replicate n .any)) e)], 9⟩ W := by
  have hne : blk ≠ 4 := fun hh => by
    subst hh
    obtain ⟨c4, fr4, h1, h2, u, v, h3⟩ := S.four
    rw [hb] at h1
    simp only [Option.some.injEq, Obj.cells.injEq] at h1
    obtain ⟨rfl, -, -⟩ := h1
    obtain ⟨s, h5⟩ := hc 0 hn
    have := (Array.getElem?_eq_some_iff.1 h5).1
    obtain rfl : off = 0 := by omega
    rw [h3] at h5; cases h5
  refine Am.simOf (fun y hy => ?_) (fun y hy z hz ly lz hly hlz hh => ?_) (fun k hk => Am.ren1_gt (by omega)) (by rw [sizeG]; decide) gl8
  · simp only [List.mem_cons, List.mem_nil_iff, or_false] at hy
    rcases hy with rfl | rfl
    · exact ⟨by decide, obj4 S⟩
    · exact ⟨show 8 < 9 by decide, _, _, Am.ren1_at, hb, Am.glob_of_cells hb fun i hi => by
        obtain ⟨s, h⟩ := hc i hi; exact ⟨_, h, rfl⟩⟩
  · simp only [List.mem_cons, List.mem_nil_iff, or_false] at hy hz
    rcases hy with rfl | rfl <;> rcases hz with rfl | rfl
    · rfl
    · simp only [Am.ren1_lt (show 4 < 8 by decide), Am.ren1_at, Option.some.injEq] at hly hlz
      subst hly; subst hlz; exact absurd hh.symm hne
    · simp only [Am.ren1_lt (show 4 < 8 by decide), Am.ren1_at, Option.some.injEq] at hly hlz
      subst hly; subst hlz; exact absurd hh hne
    · rfl
theorem glob4 : ∀ l o, (Am.mkT [(4, Am.Obj.glob (.puts .lf 0 [.any]) 178)]).get l = some o → ∃ vs el, o = .glob vs el := fun l o h => by
  have := Am.mkT_mem h
  simp only [List.mem_singleton, Prod.mk.injEq] at this
  exact ⟨_, _, this.2⟩
theorem glob48 {vs : Am.T Am.V} {e : Nat} : ∀ l o, (Am.mkT [(4, Am.Obj.glob (.puts .lf 0 [.any]) 178), (8, .glob vs e)]).get l = some o → ∃ vs el, o = .glob vs el := fun l o h => by
  have := Am.mkT_mem h
  simp only [List.mem_cons, List.mem_nil_iff, or_false, Prod.mk.injEq] at this
  rcases this with ⟨-, rfl⟩ | ⟨-, rfl⟩ <;> exact ⟨_, _, rfl⟩
theorem es17 : Am.EsOk Tryz.prog [Am.a17] := .cons Am.a17_ok .nil
/-- The law, at whatever lines. -/
theorem nobody_calls {W : World} (S : Start W) {v : Value} (hv : v = .slice none 0 0 ∨ ∃ (a : Addr) (len cap : Nat) (Sx : Nat → ByteArray), v = .slice (some a) len cap ∧ ∀ i, i < len → W.cell? (a.add i) = some (.string (Sx i))) :
    Calls Tryz.prog 3 #[v] W fun en W' => en = .returned (.bool true) ∧ Below W.heap.size W W' := by
  have fin : ∀ {en : Ending} {W' : World}, (∃ v', en = .returned v' ∧ (∃ r', Am.VR r' (.bool true) v') ∧ Below W.heap.size W W') → en = .returned (.bool true) ∧ Below W.heap.size W W' := by
    rintro en W' ⟨v', rfl, ⟨r', hr⟩, hb⟩
    cases hr
    exact ⟨rfl, hb⟩
  rcases hv with rfl | ⟨a, len, cap, Sx, rfl, hc⟩
  · exact ((Am.runE_ok Am.fits es17 Am.nbNil_run).calls Am.fits fn3 body3 glob4 (.cons .nils .nil) (sim4 S ⟨0, 0, 0, 0⟩)).mono fun _ _ h => fin h
  · rcases Nat.eq_zero_or_pos len with rfl | hpos
    · exact ((Am.runE_ok Am.fits es17 Am.nbZero_run).calls Am.fits fn3 body3 glob4 (.cons (.sl0 a cap) .nil) (sim4 S ⟨0, 0, 0, 0⟩)).mono fun _ _ h => fin h
    · obtain ⟨blk, off, spot⟩ := a
      have h0 := hc 0 hpos
      have hspot : spot = none := by
        cases spot with
        | none => rfl
        | some s => simp only [World.cell?, Addr.add] at h0; split at h0 <;> simp at h0
      subst hspot
      have hblk : ∃ c e fr, W.heap[blk]? = some (.cells c e fr) ∧ ∀ i, i < len → c[off + i]? = some (.string (Sx i)) := by
        cases hh : W.heap[blk]? with
        | none => simp [World.cell?, Addr.add, hh] at h0
        | some o =>
          cases o <;> first | (simp [World.cell?, Addr.add, hh] at h0; done) | skip
          rename_i c e fr
          exact ⟨c, e, fr, rfl, fun i hi => by have := hc i hi; rw [Am.Addr.add_none] at this; simpa [World.cell?, hh] using this⟩
      obtain ⟨c, e, fr, hb, hcs⟩ := hblk
      have hval : ∀ {x : Am.Loc}, x = ⟨blk, off, cap * 1, 1⟩ → Am.VRs (Am.ren1 8 x) [.sl 8 0 len none] [.slice (some ⟨blk, off, none⟩) len cap] := fun {x} hx => by
        subst hx
        have := Am.VR.slo (r := Am.ren1 8 ⟨blk, off, cap * 1, 1⟩) (l := 8) (o := 0) (n := len) (loc := ⟨blk, off, cap * 1, 1⟩) cap Am.ren1_at (by simp)
        exact .cons this .nil
      rcases Nat.lt_or_ge 50 len with hbig | hle
      · obtain ⟨m, rfl⟩ : ∃ m, len = m + 51 := ⟨len - 51, by omega⟩
        exact ((Am.runE_ok Am.fits es17 (Am.nbMany_run m)).calls Am.fits fn3 body3 glob4 (hval rfl) (sim4 S _)).mono fun _ _ h => fin h
      · exact ((Am.runE_ok Am.fits es17 (Am.nb_run e len hpos hle)).calls Am.fits fn3 body3 glob48 (hval rfl) (sim48 S hb (fun i hi => ⟨_, hcs i hi⟩) hpos)).mono fun _ _ h => fin h

theorem contract (H : Type) (enc : TypeId × Value → H) (W : World) (base : Nat) (args : Array Value) (ds gs : List (DataW H)) (before : List MemPlace)
    (hval : ∀ (j : Nat) t v, Tryz.f3.params[j]? = some t → args[j]? = some v → Value.okWide Tryz.prog W .any base t v)
    (hW : DataW.Whole enc Tryz.prog Tryz.f3.params.toList Rows.serveNobodySpec.vars false W args.toList ds gs before) (hL : laidMetH Tryz.prog Rows.serveNobodyRow.laid W) (hsh : W.ShapedOpen Tryz.prog) :
    Calls Tryz.prog 3 args W fun e W' => ∃ v, e = .returned v ∧ Rows.serveNobodySpec.post enc Tryz.prog Tryz.f3 false true false false W args v W' := by
  have hW' := hW
  obtain ⟨p, q, hA0, hV, rfl, hfz, hnd⟩ := hW
  have hA : DataW.TrodAll enc Tryz.prog W 0 (fun _ => true) true Tryz.f3.params.toList args.toList ds p := hA0
  rw [Tryz.params3] at hA hval
  obtain ⟨v0, vs0, d0, ds0, p0, q0, hargs, rfl, rfl, h0, r0⟩ := trodAll_cons hA
  obtain ⟨rfl, rfl, rfl⟩ := trodAll_nil r0
  obtain rfl : args = #[v0] := by cases args; simp_all
  obtain ⟨rfl, rfl⟩ := trodVars_none hV
  obtain ⟨fuel, hf⟩ := h0
  obtain ⟨a0, l0, c0, hsl⟩ := okWide_slice Tryz.underlying22 (hval 0 22 v0 rfl rfl)
  have hv : v0 = .slice none 0 0 ∨ ∃ (a : Addr) (len cap : Nat) (Sx : Nat → ByteArray), v0 = .slice (some a) len cap ∧ ∀ i, i < len → W.cell? (a.add i) = some (.string (Sx i)) := by
    subst hsl
    rcases Deep.open_strs Tryz.underlying22 Tryz.underlying9 cells9 hf with ⟨h1, -⟩ | ⟨a, len, cap, m, Sx, h1, -, hlc, -, hm, -, hcell⟩
    · left; simpa [Value.cells] using h1
    · right
      refine ⟨a, len, cap, Sx, by simpa [Value.cells] using h1, fun i hi => (hcell i ?_).1⟩
      rw [if_pos rfl] at hm
      omega
  refine (nobody_calls (start hL hsh) hv).mono fun e W' ⟨he, hb⟩ => ?_
  subst he
  exact ⟨_, rfl, Am.law_post hW' rfl laidOut params_ok hb rfl Tryz.underlying4 rfl⟩
end Go.Proofs.YtnpkghopofokhaaGreatDoor
