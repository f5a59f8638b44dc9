/- What ServeWords does, at whatever line. -/
import Derived.Test.YtnpkghopofokhaaGreatDoorS2W4
import Derived.Test.YtnpkghopofokhaaGreatDoorS2Oks
import Derived.Test.YtnpkghopofokhaaGreatDoorS2Facts
namespace Go.Proofs.Zw
open Go Go.RowKit
/-- What the machine needs of the world: one listed variable holds an error. -/
def Start (W : World) : Prop := ∃ c fr, W.heap[4]? = some (.cells c 178 fr) ∧ c.size = 1 ∧ ∃ u v, c[0]? = some (.iface u v)
theorem Start.below {w w' : World} (h : Start w) (hb : Below w.heap.size w w') : Start w' := by
  obtain ⟨c, fr, h1, h2⟩ := h
  exact ⟨c, fr, (hb.block 4 (Array.getElem?_eq_some_iff.1 h1).1).trans h1, h2⟩
theorem gl8 {x : Am.Loc} : ∀ g, g < Tryz.prog.globals.size → ∃ loc, Am.ren1 8 x g = some loc ∧ loc.blk = g ∧ loc.off = 0 := fun g hg => by
  rw [YtnpkghopofokhaaGreatDoor.sizeG] at hg; exact ⟨_, Am.ren1_lt hg, rfl, rfl⟩
theorem sim4 {W : World} (S : Start W) : Am.Sim Tryz.prog (Am.ren1 8 ⟨0, 0, 0, 0⟩) ⟨Am.mkT [(4, .glob (.puts .lf 0 [.any]) 178)], 3000⟩ W := by
  obtain ⟨c, fr, h1, h2, u, v, h3⟩ := S
  refine Am.simOf (fun y hy => ?_) (fun y hy z hz _ _ _ _ _ => ?_) (fun k hk => Am.ren1_gt (by omega)) (by rw [YtnpkghopofokhaaGreatDoor.sizeG]; decide) gl8
  · simp only [List.mem_singleton] at hy; subst hy
    refine ⟨by decide, _, _, Am.ren1_lt (by decide), h1, Am.glob_of_cells (n := 1) h1 fun i hi => ?_⟩
    obtain rfl : i = 0 := by omega
    exact ⟨_, by simpa using h3, rfl⟩
  · simp only [List.mem_singleton] at hy hz; subst hy; subst hz; rfl
theorem fn5 : Am.pg.fn.get 5 = some Tryz.f5 := by kernel_rfl
theorem alive_calls {w : World} (S : Start w) : Calls Tryz.prog 5 #[] w fun e w' => e = .returned (.bool true) ∧ Below w.heap.size w w' := by
  refine (Am.a17_ok.calls Am.fits fn5 (by kernel_rfl) (fun l o h => ?_) .nil (sim4 S)).mono ?_
  · have := Am.mkT_mem h
    simp only [List.mem_singleton, Prod.mk.injEq] at this
    exact ⟨_, _, this.2⟩
  · rintro en w' ⟨v', rfl, ⟨r', hr⟩, hb⟩
    cases hr
    exact ⟨rfl, hb⟩
theorem words_size : ∀ (n : Nat) (l : List UInt8), l.length ≤ n → (wordsL l).length ≤ l.length ∧ (joinW (wordsL l)).length ≤ 3 * l.length
  | n, l, hn => by
    by_cases h : skip l = []
    · rw [words_none h]; exact ⟨Nat.zero_le _, Nat.zero_le _⟩
    · have hl := cut_less l h
      have hj := congrArg List.length (cutQ_join (skip l) false)
      have hs := skip_len l
      have hne := List.length_pos_iff.2 (cut_ne h)
      rw [List.length_append] at hj
      rw [words_some h]
      match n with
      | 0 => omega
      | n + 1 =>
        obtain ⟨h1, h2⟩ := words_size n (cutQ (skip l) false).2 (by omega)
        refine ⟨by rw [List.length_cons]; omega, ?_⟩
        rw [joinW, List.length_append]
        split
        · rw [List.length_nil]; omega
        · rw [List.length_cons, List.length_cons]; omega
theorem join_take : ∀ (l : List (List UInt8)) (k : Nat), (joinW (l.take k)).length ≤ (joinW l).length
  | [], k => by simp
  | w :: t, 0 => Nat.zero_le _
  | w :: t, k + 1 => by
    have := join_take t k
    rw [List.take_succ_cons, joinW, joinW, List.length_append, List.length_append]
    by_cases h1 : t.take k = []
    · rw [if_pos h1]; simp
    · have h2 : t ≠ [] := fun hh => h1 (by rw [hh]; simp)
      rw [if_neg h1, if_neg h2]; simp; omega
theorem join_next {l : List (List UInt8)} {k : Nat} (h : k < l.length) : joinW (l.take (k + 1)) = (if l.take k = [] then [] else joinW (l.take k) ++ [32, 32]) ++ l[k] := by
  rw [List.take_add_one, List.getElem?_eq_getElem h]; exact join_snoc _ _
theorem bs_app (a b : List UInt8) : bs a ++ bs b = bs (a ++ b) := by
  have : (bs a ++ bs b).data = (bs (a ++ b)).data := by rw [ByteArray.data_append]; simp [bs]
  exact congrArg ByteArray.mk this
set_option maxHeartbeats 3200000 in
set_option maxRecDepth 1000000 in
theorem body_calls (s : ByteArray) (w : World) (S : Start w) : Calls Tryz.prog 4 #[.string s] w fun e w' => e = .returned (.bool true) ∧ Below w.heap.size w w' := by
  have hS := Lib.hid S; clear S
  by_cases hbig : 3000 < s.size
  · have hbi : (3000 : Int) < (s.size : Int) := by omega
    go_enter Tryz.func4, Tryz.ntmps4
    go_wp2_with fail
    refine (alive_calls hS.out).mono ?_
    rintro en w1 ⟨rfl, hb⟩
    go_wp2
    exact ⟨rfl, _, results_tmp rfl _ _ _, rfl, hb⟩
  · have hs : s.size ≤ 3000 := by omega
    have hbi : ¬ (3000 : Int) < (s.size : Int) := by omega
    go_enter Tryz.func4, Tryz.ntmps4
    go_wp2_with fail
    refine (words_calls s w (by omega)).mono ?_
    rintro en w1 ⟨⟨v, rfl, hown⟩, hb⟩
    obtain ⟨hn, hj⟩ := words_size _ s.data.toList (Nat.le_refl _)
    rw [← size_list] at hn hj
    have hne := words_ne _ s.data.toList (Nat.le_refl _)
    have hwj := words_join _ s.data.toList (Nat.le_refl _)
    have hws : ∃ ws, ws = wordsL s.data.toList := ⟨_, rfl⟩
    obtain ⟨ws, hws⟩ := hws
    rw [← hws] at hown hn hj hne hwj
    obtain ⟨va, vc, rfl⟩ := owns_form hown
    have HO := Lib.hid hown; clear hown
    have HB := Lib.hid hb; clear hb
    have HNE := Lib.hid hne; clear hne
    have HWS := Lib.hid hws; clear hws
    have HWJ := Lib.hid hwj; clear hwj
    go_wp2_with fail
    go_loopw [4, 15] (fun u4 i wr => ∃ (k : Nat), k ≤ ws.length ∧ u4 = .string (bs (joinW (ws.take k))) ∧ i = .int .i64 k ∧ Below w1.heap.size w1 wr) (fun _ i _ => ws.length - (intOf i).toNat)
    case atStart => exact ⟨0, by omega, rfl, rfl, Below.refl _ _⟩
    case round =>
      obtain ⟨k, hk, rfl, rfl, hb⟩ := hrel
      have HB1 := Lib.hid hb; clear hb
      by_cases hlt : k < ws.length
      · have hd : decide ((k : Int) < (ws.length : Int)) = true := decide_eq_true (by omega)
        obtain ⟨g, rfl, hg, e1⟩ := owns_get HO.out hlt
        rw [strs_get ws k hlt] at e1
        have e1 := (HB1.out.cell hg).trans e1
        have hki : (k : Int) < (ws.length : Int) := by omega
        have hne : (bs ws[k]).toList.isEmpty = false := by
          rw [ByteArray.toList_eq]
          have := HNE.out ws[k] (List.getElem_mem hlt)
          simpa [bs] using this
        have hbd : (bs (joinW (ws.take k))).size + (bs ws[k]).size ≤ 9000 := by
          have h1 := join_take ws (k + 1)
          rw [join_next hlt, List.length_append] at h1
          rw [bs_size, bs_size]
          by_cases h0 : ws.take k = []
          · rw [if_pos h0] at h1; rw [h0]; simp [joinW] at h1 ⊢; omega
          · rw [if_neg h0, List.length_append] at h1; omega
        go_wp2_with fail
        · have h0 : ¬ (ws.take k = []) := fun hh => by
            have := congrArg List.length hh
            rw [List.length_take, List.length_nil] at this; omega
          refine ⟨⟨k + 1, by omega, ?_, by simp, HB1.out⟩, by simp [intOf] <;> omega⟩
          rw [join_next hlt, if_neg h0, ← bs_app, ← bs_app]; rfl
        · have h0 : ws.take k = [] := by
            have : k = 0 := by omega
            rw [this]; rfl
          refine ⟨⟨k + 1, by omega, ?_, by simp, HB1.out⟩, by simp [intOf] <;> omega⟩
          rw [join_next hlt, if_pos h0, h0, List.nil_append]; rfl
      · have hd : decide ((k : Int) < (ws.length : Int)) = false := decide_eq_false (by omega)
        go_wp2_with fail
        obtain rfl : k = ws.length := by omega
        have HB2 := Lib.hid (HB.out.trans (HB1.out.mono HB.out.size))
        have hown1 := owns_below HO.out HB1.out
        have HO1 := Lib.hid hown1; clear hown1
        clear HO HB1
        refine (refwords_calls s wr hs).mono ?_
        rintro en w2 ⟨⟨v2, rfl, hown2⟩, hb2⟩
        rw [← HWS.out] at hown2
        have HB3 := Lib.hid (HB2.out.trans (hb2.mono HB2.out.size))
        have HO2 := Lib.hid (owns_below HO1.out hb2)
        have HO3 := Lib.hid hown2
        clear hown2 hb2 HO1
        obtain ⟨va2, vc2, rfl⟩ := owns_form HO3.out
        go_wp2_with fail
        refine (texts_calls ws _ _ _ _ w2 (by omega) HO2.out HO3.out).mono ?_
        rintro en w3 ⟨rfl, hb3⟩
        have HB4 := Lib.hid (HB3.out.trans (hb3.mono HB3.out.size))
        have HO4 := Lib.hid (owns_below HO2.out hb3)
        clear hb3 HO2 HO3 HB3
        go_wp2_with fail
        refine (words_calls (bs (joinW ws)) w3 (by rw [bs_size]; omega)).mono ?_
        rintro en w4 ⟨⟨v4, rfl, hown4⟩, hb4⟩
        rw [show (bs (joinW ws)).data.toList = joinW ws from rfl, HWJ.out] at hown4
        have HB5 := Lib.hid (HB4.out.trans (hb4.mono HB4.out.size))
        have HO5 := Lib.hid (owns_below HO4.out hb4)
        have HO6 := Lib.hid hown4
        clear hown4 hb4 HO4 HB4
        obtain ⟨va4, vc4, rfl⟩ := owns_form HO6.out
        go_wp2_with fail
        refine (texts_calls ws _ _ _ _ w4 (by omega) HO5.out HO6.out).mono ?_
        rintro en w5 ⟨rfl, hb5⟩
        have HB6 := Lib.hid (HB5.out.trans (hb5.mono HB5.out.size))
        clear hb5 HO5 HO6 HB5
        go_wp2_with fail
        refine (alive_calls (hS.out.below HB6.out)).mono ?_
        rintro en w6 ⟨rfl, hb6⟩
        go_wp2
        exact ⟨rfl, _, results_tmp rfl _ _ _, rfl, HB6.out.trans (hb6.mono HB6.out.size)⟩
end Go.Proofs.Zw
