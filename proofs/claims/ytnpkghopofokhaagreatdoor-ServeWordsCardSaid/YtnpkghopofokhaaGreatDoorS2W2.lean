/- What serve.Words does. -/
import Derived.Test.YtnpkghopofokhaaGreatDoorS2W1
namespace Go.Proofs.Zw
open Go Go.RowKit
theorem info9 : (Tryz.prog.info? 9).map (fun i => (i.zero, i.size, i.bytes)) = some (some (.string ⟨#[]⟩), 1, 16) := by kernel_rfl
/-- Texts, as values. -/
def strs (l : List (List UInt8)) : List Value := l.map fun x => .string (bs x)
theorem strs_len (l : List (List UInt8)) : (strs l).length = l.length := by simp [strs]
theorem strs_snoc (l : List (List UInt8)) (x : List UInt8) : strs (l ++ [x]) = strs l ++ [.string (bs x)] := by simp [strs]
theorem owns_below {w w' : World} {base e size : Nat} {v : Value} {n : Nat} {xs : List Value} (h : w.ownsRow base e size v n xs) (hb : Below w.heap.size w w') : w'.ownsRow base e size v n xs :=
  ⟨h.1, h.2.imp id fun ⟨g, cap, cur, h1, h2, h3, h4⟩ => ⟨g, cap, cur, h1, h2, (hb.block g (Array.getElem?_eq_some_iff.1 h3).1).trans h3, h4⟩⟩
theorem cut_word (l : List UInt8) : ((cutQ (skip l) false).1 = [] ∧ (cutQ (skip l) false).2 = [] ∧ wordsL l = []) ∨ ((cutQ (skip l) false).1 ≠ [] ∧ (cutQ (skip l) false).2.length < l.length ∧ wordsL l = (cutQ (skip l) false).1 :: wordsL (cutQ (skip l) false).2) := by
  by_cases h : skip l = []
  · left; rw [h, cutQ_nil]; exact ⟨rfl, rfl, words_none h⟩
  · right; exact ⟨cut_ne h, cut_less l h, words_some h⟩
set_option maxHeartbeats 1600000 in
set_option maxRecDepth 1000000 in
theorem words_calls (s : ByteArray) (w : World) (hs : s.size ≤ 9000) : Calls Tryz.prog 7 #[.string s] w fun e w' => (∃ v, e = .returned v ∧ w'.ownsRow w.heap.size 9 1 v (wordsL s.data.toList).length (strs (wordsL s.data.toList))) ∧ Below w.heap.size w w' := by
  obtain ⟨i0, hi, hz0, hz1, hz2⟩ := info_parts info9
  go_enter Tryz.func7, Tryz.ntmps7
  go_wp2_with fail
  refine (cut_calls s w hs).mono ?_
  rintro en w1 ⟨rfl, hb⟩
  have hcw := cut_word s.data.toList
  generalize cutQ (skip s.data.toList) false = x0 at hcw
  obtain ⟨wd, rest⟩ := x0
  simp only [] at hcw
  rw [size_list] at hs
  go_wp2_with fail
  go_loopw [3, 4, 5] (fun u3 u4 u5 wr => ∃ (done : List (List UInt8)) (wd rest : List UInt8), u4 = .string (bs wd) ∧ u5 = .string (bs rest) ∧ wordsL s.data.toList = done ++ (if wd = [] then [] else wd :: wordsL rest) ∧ (∃ a l c, u3 = .slice a l c) ∧ wr.ownsRow w.heap.size 9 1 u3 done.length (strs done) ∧
      done.length + rest.length + (if wd = [] then 0 else 1) ≤ 9000 ∧ w.heap.size ≤ wr.heap.size ∧ Below w.heap.size w wr) (fun _ u4 u5 _ => match u5, u4 with | .string r, .string x => r.size + min x.size 1 | _, _ => 0)
  case atStart =>
    refine ⟨[], wd, rest, rfl, rfl, ?_, ⟨_, _, _, rfl⟩, World.ownsRow_nil _ _ _ _, ?_, hb.size, hb⟩
    · rcases hcw with ⟨h1, h2, h3⟩ | ⟨h1, h2, h3⟩
      · rw [h3, if_pos h1]; rfl
      · rw [h3, if_neg h1]; rfl
    · rcases hcw with ⟨h1, h2, h3⟩ | ⟨h1, h2, h3⟩
      · rw [if_pos h1, h2]; simp
      · rw [if_neg h1]; simp; omega
  case round =>
    clear hcw
    obtain ⟨done, wd, rest, rfl, rfl, hw, ⟨va, vl, vc, rfl⟩, hown, hlen, hsz, hb⟩ := hrel
    have HO := Lib.hid hown; clear hown
    have HB := Lib.hid hb; clear hb
    by_cases hwd : wd = []
    · subst hwd
      rw [show bs [] = ⟨#[]⟩ from rfl]
      go_wp2_with fail
      exact ⟨rfl, _, results_tmp rfl _ _ _, ⟨Value.slice va vl vc, rfl, HO.out⟩, HB.out⟩
    · have hne : (bs wd).toList.isEmpty = false := by rw [ByteArray.toList_eq]; simpa [bs] using hwd
      rw [if_neg hwd] at hw hlen
      go_wp2_with (at_builtin; refine wpList_append_own _ rfl _ _ 22 rfl w.heap.size 9 i0 (.string ⟨#[]⟩) 1 16 Tryz.underlying22 hi hz0 hz1 hz2 rfl (by decide) _ _ _ rfl (HO.out.alloc _) ⟨wr.heap.size, 0, none⟩ 1 1 [.string (bs wd)] rfl rfl ?c1 ?c2 ?c3 ?c4 ?c5 ?_)
      case c1 =>
        intro j u hj
        have e : (⟨wr.heap.size, 0, none⟩ : Addr).add j = ⟨wr.heap.size, j, none⟩ := by unfold Addr.add; split <;> simp_all
        rw [e, World.cell?_alloc_at _ _ _ _ rfl, ← hj]; simp
      case c2 => intro u hu; simp at hu; subst hu; rfl
      case c3 => unfold maxLen; omega
      case c4 => omega
      case c5 => simp; omega
      intro v' w2 hown' hgrow _
      have HB3 : Below w.heap.size wr w2 := ((Below.refl _ wr).alloc hsz _).grown hgrow (by simp; omega) (fun j hj => (HO.out.lt j hj).1)
      have HBW : Below w.heap.size w w2 := HB.out.trans (HB3.mono (by omega))
      have q8 : ∃ a l c, v' = .slice a l c := by
        rcases hown'.2 with ⟨h, -⟩ | ⟨g, cp, cur, h, -⟩
        · exact ⟨_, _, _, h⟩
        · exact ⟨_, _, _, h⟩
      obtain ⟨va', vl', vc', rfl⟩ := q8
      have HO' := Lib.hid hown'; clear hown'
      have hs2 : w.heap.size ≤ w2.heap.size := Nat.le_trans hsz HB3.size
      clear HB3 hgrow HO HB
      go_wp2_with fail
      refine (cut_calls (bs rest) w2 (by rw [bs_size]; omega)).mono ?_
      rintro en w3 ⟨rfl, hb3⟩
      have hcw := cut_word rest
      rw [show (bs rest).data.toList = rest from rfl]
      generalize cutQ (skip rest) false = x0 at hcw
      obtain ⟨wd2, rest2⟩ := x0
      simp only [] at hcw
      go_wp2_with fail
      refine ⟨⟨done ++ [wd], wd2, rest2, rfl, rfl, ?_, ⟨_, _, _, rfl⟩, ?_, ?_, Nat.le_trans hs2 hb3.size, HBW.trans (hb3.mono hs2)⟩, ?_⟩
      · rw [hw]
        rcases hcw with ⟨h1, h2, h3⟩ | ⟨h1, h2, h3⟩
        · rw [h3, if_pos h1]; simp
        · rw [h3, if_neg h1]; simp
      · rw [strs_snoc, List.length_append]
        exact owns_below HO'.out hb3
      · rw [List.length_append]
        rcases hcw with ⟨h1, h2, h3⟩ | ⟨h1, h2, h3⟩
        · rw [if_pos h1, h2]; simp; omega
        · rw [if_neg h1]; simp; omega
      · show (bs rest2).size + min (bs wd2).size 1 < (bs rest).size + min (bs wd).size 1
        have h0 : 0 < wd.length := List.length_pos_iff.2 hwd
        rw [bs_size, bs_size, bs_size, bs_size]
        rcases hcw with ⟨h1, h2, h3⟩ | ⟨h1, h2, h3⟩
        · rw [h1, h2]; simp; omega
        · omega
end Go.Proofs.Zw
