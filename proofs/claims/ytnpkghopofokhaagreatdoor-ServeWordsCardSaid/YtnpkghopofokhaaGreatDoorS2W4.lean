/- What the document's Words does. -/
import Derived.Test.YtnpkghopofokhaaGreatDoorS2W3
import Derived.Deep.AppendLies
import Derived.Deep.RegionLaw
namespace Go.Proofs.Zw
open Go Go.RowKit
theorem prs_get : ∀ (l : List (Nat × Nat)) (k : Nat) (x : Nat × Nat), l[k]? = some x → (prs l)[k * 2]? = some (.int .i64 x.1) ∧ (prs l)[k * 2 + 1]? = some (.int .i64 x.2)
  | [], k, x, h => by simp at h
  | y :: l, 0, x, h => by simp at h; subst h; simp [prs]
  | y :: l, k + 1, x, h => by
    have := prs_get l k x (by simpa using h)
    have e : prs (y :: l) = [.int .i64 y.1, .int .i64 y.2] ++ prs l := by simp [prs]
    rw [e, show (k + 1) * 2 = k * 2 + 2 by omega, List.getElem?_append_right (by simp), List.getElem?_append_right (by simp <;> omega)]
    simpa using this
theorem owns_base {w : World} {b b' e size : Nat} {v : Value} {n : Nat} {xs : List Value} (h : w.ownsRow b e size v n xs) (hb : b' ≤ b) : w.ownsRow b' e size v n xs :=
  ⟨h.1, h.2.imp id fun ⟨g, cap, cur, h1, h2, h3⟩ => ⟨g, cap, cur, h1, Nat.le_trans hb h2, h3⟩⟩
theorem news1 (w : World) (v : Value) (t : TypeId) : ∀ (j : Nat) (u : Value), [v][j]? = some u → (w.alloc (Obj.cells #[v] t)).cell? ((⟨w.heap.size, 0, none⟩ : Addr).add j) = some u := fun j u hj => by
  have e : (⟨w.heap.size, 0, none⟩ : Addr).add j = ⟨w.heap.size, j, none⟩ := by unfold Addr.add; split <;> simp_all
  rw [e, World.cell?_alloc_at _ _ _ _ rfl, ← hj]; simp
set_option maxHeartbeats 3200000 in
set_option maxRecDepth 1000000 in
theorem refwords_calls (s : ByteArray) (w : World) (hs : s.size ≤ 3000) : Calls Tryz.prog 9 #[.string s] w fun e w' => (∃ v, e = .returned v ∧ w'.ownsRow w.heap.size 9 1 v (wordsL s.data.toList).length (strs (wordsL s.data.toList))) ∧ Below w.heap.size w w' := by
  obtain ⟨i0, hi, hz0, hz1, hz2⟩ := info_parts info9
  go_enter Tryz.func9, Tryz.ntmps9
  go_wp2_with fail
  refine (spans_calls s w hs).mono ?_
  rintro en w1 ⟨⟨v, sp, rfl, hn, hok, hw, hown⟩, hb⟩
  obtain ⟨va, vl, vc, rfl⟩ : ∃ a l c, v = .slice a l c := by
    rcases hown.2 with ⟨h, -⟩ | ⟨g, cp, cur, h, -⟩
    · exact ⟨_, _, _, h⟩
    · exact ⟨_, _, _, h⟩
  obtain ⟨rfl, hcell⟩ : vl = sp.length ∧ ∀ k x, sp[k]? = some x → ∃ g, va = some ⟨g, 0, none⟩ ∧ g < w1.heap.size ∧ w1.cell? ⟨g, k * 2, none⟩ = some (.int .i64 x.1) ∧ w1.cell? ⟨g, k * 2 + 1, none⟩ = some (.int .i64 x.2) := by
    rcases hown.2 with ⟨h, h0⟩ | ⟨g, cp, cur, h, h1, h2, h3, h4, h5, h6⟩
    · cases h; exact ⟨h0.symm, fun k x hx => by rw [List.eq_nil_of_length_eq_zero h0] at hx; simp at hx⟩
    · cases h
      refine ⟨rfl, fun k x hx => ⟨g, rfl, (Array.getElem?_eq_some_iff.1 h2).1, ?_⟩⟩
      have hk := (List.getElem?_eq_some_iff.1 hx).1
      obtain ⟨e1, e2⟩ := prs_get sp k x hx
      rw [← h6, List.getElem?_take_of_lt (by omega), Array.getElem?_toList] at e1 e2
      simp only [World.cell?, h2]
      exact ⟨by simpa using e1, by simpa using e2⟩
  have hcell := Lib.hid hcell
  have hok := Lib.hid hok
  have HB1 := Lib.hid hb; clear hb
  clear hown
  go_wp2_with fail
  go_loopw [4, 5] (fun u4 u5 wr => ∃ (k : Nat), k ≤ sp.length ∧ u5 = .int .i64 k ∧ (∃ a l c, u4 = .slice a l c) ∧ wr.ownsRow w1.heap.size 9 1 u4 k (strs ((sp.map (part s.data.toList)).take k)) ∧ w1.heap.size ≤ wr.heap.size ∧ Below w1.heap.size w1 wr) (fun _ u5 _ => sp.length - (intOf u5).toNat)
  case atStart => exact ⟨0, by omega, rfl, ⟨_, _, _, rfl⟩, World.ownsRow_nil _ _ _ _, Nat.le_refl _, Below.refl _ _⟩
  case round =>
    obtain ⟨k, hk, rfl, ⟨oa, ol, oc, rfl⟩, hown, hsz, hb⟩ := hrel
    have HO := Lib.hid hown; clear hown
    have HB := Lib.hid hb; clear hb
    by_cases hlt : k < sp.length
    · have hd : decide ((k : Int) < (sp.length : Int)) = true := decide_eq_true (by omega)
      obtain ⟨⟨a, b⟩, hx⟩ : ∃ x, sp[k]? = some x := ⟨_, List.getElem?_eq_getElem hlt⟩
      obtain ⟨g, rfl, hg, hc0, hc1⟩ := hcell.out k (a, b) hx
      obtain ⟨hab, hbs⟩ := hok.out (a, b) (List.mem_of_getElem? hx)
      have c0 := (HB.out.cell hg).trans hc0
      have c1 := (HB.out.cell hg).trans hc1
      have hki : (k : Int) < (sp.length : Int) := by omega
      simp only [] at hab hbs c0 c1
      have habi : (a : Int) ≤ (b : Int) := by omega
      have hbsi : (b : Int) ≤ (s.size : Int) := by omega
      clear hc0 hc1
      go_wp2_with fail
      have hpart : s.extract a b = bs (part s.data.toList (a, b)) := by rw [← bs_list (s.extract a b), extract_list]; rfl
      have htk : (sp.map (part s.data.toList)).take (k + 1) = (sp.map (part s.data.toList)).take k ++ [part s.data.toList (a, b)] := by rw [List.take_add_one, List.getElem?_map, hx]; rfl
      have hmx : k + 1 ≤ maxLen := by unfold maxLen; omega
      go_region_law (refine step_append_lies _ rfl (.tmp 14) (.tmp 27) 22 rfl w1.heap.size 9 i0 (.string ⟨#[]⟩) 1 16 Tryz.underlying22 hi hz0 hz1 hz2 rfl (by decide) (.slice oa ol oc) k (strs ((sp.map (part s.data.toList)).take k)) (by simp [Act.eval, Act.put]) (HO.out.alloc _) ⟨wr.heap.size, 0, none⟩ 1 1 [.string (bs (part s.data.toList (a, b)))] (by simp [Act.eval, Act.put]) rfl (news1 _ _ _) (by simp [Value.oneCell']) (by decide) hmx (by omega) (by simp; omega) _ rfl ?_; intro g2 cap2 w3 hown3 hgrow3 hor3 hlt3)
      all_goals
        have hbd : Below w1.heap.size wr (wr.alloc (Obj.cells #[Value.string (bs (part s.data.toList (a, b)))] 9)).drew := by
          have := (Below.refl w1.heap.size wr).alloc hsz (Obj.cells #[Value.string (bs (part s.data.toList (a, b)))] 9)
          exact ⟨this.os, this.tape, this.output, this.size, this.block⟩
        have HB3 : Below w1.heap.size wr w3 := hbd.grown hgrow3 (by show w1.heap.size ≤ (wr.alloc _).heap.size; simp; omega) (fun j hj => (HO.out.lt j hj).1)
        have HO' := Lib.hid hown3; clear hown3
        have hs3 : w1.heap.size ≤ w3.heap.size := Nat.le_trans hsz HB3.size
        have HBW := Lib.hid (HB.out.trans HB3)
        clear HB3 hgrow3 hbd hor3
        go_wp2_with fail
        refine ⟨⟨k + 1, by omega, by simp, ⟨_, _, _, rfl⟩, ?_, hs3, HBW.out⟩, by simp [intOf] <;> omega⟩
        rw [htk, strs_snoc]
        exact HO'.out
    · have hd : decide ((k : Int) < (sp.length : Int)) = false := decide_eq_false (by omega)
      go_wp2_with fail
      refine ⟨rfl, _, results_tmp rfl _ _ _, ⟨.slice oa ol oc, rfl, ?_⟩, HB1.out.trans (HB.out.mono HB1.out.size)⟩
      obtain rfl : k = sp.length := by omega
      have e : (sp.map (part s.data.toList)).take sp.length = wordsL s.data.toList := by rw [hw, List.take_of_length_le (by simp)]
      have := HO.out
      rw [e] at this
      have e2 : (wordsL s.data.toList).length = sp.length := by rw [hw]; simp
      rw [e2]
      exact owns_base this HB1.out.size
end Go.Proofs.Zw
namespace Go.Proofs.Zw
open Go Go.RowKit
theorem owns_form {w : World} {b : Nat} {v : Value} {n : Nat} {xs : List Value} (h : w.ownsRow b 9 1 v n xs) : ∃ a c, v = .slice a n c := by
  rcases h.2 with ⟨h1, rfl⟩ | ⟨g, cp, cur, h1, -⟩
  · exact ⟨_, _, h1⟩
  · exact ⟨_, _, h1⟩
theorem owns_get {w : World} {b : Nat} {a : Option Addr} {n c : Nat} {xs : List Value} (h : w.ownsRow b 9 1 (.slice a n c) n xs) {k : Nat} (hk : k < n) : ∃ g, a = some ⟨g, 0, none⟩ ∧ g < w.heap.size ∧ w.cell? ⟨g, k, none⟩ = xs[k]? := by
  rcases h.2 with ⟨h1, h0⟩ | ⟨g, cp, cur, h1, h2, h3, h4, h5, h6, h7⟩
  · omega
  · cases h1
    refine ⟨g, rfl, (Array.getElem?_eq_some_iff.1 h3).1, ?_⟩
    simp only [World.cell?, h3]
    rw [← h7, List.getElem?_take_of_lt (by omega), Array.getElem?_toList]
    simp
theorem strs_get (l : List (List UInt8)) (k : Nat) (h : k < l.length) : (strs l)[k]? = some (.string (bs l[k])) := by
  unfold strs; rw [List.getElem?_map, List.getElem?_eq_getElem h]; rfl
set_option maxHeartbeats 1600000 in
set_option maxRecDepth 1000000 in
theorem texts_calls (l : List (List UInt8)) (v1 v2 : Value) (b1 b2 : Nat) (w : World) (hl : l.length ≤ 9000) (h1 : w.ownsRow b1 9 1 v1 l.length (strs l)) (h2 : w.ownsRow b2 9 1 v2 l.length (strs l)) :
    Calls Tryz.prog 8 #[v1, v2] w fun e w' => e = .returned (.bool true) ∧ Below w.heap.size w w' := by
  obtain ⟨a1, c1, rfl⟩ := owns_form h1
  obtain ⟨a2, c2, rfl⟩ := owns_form h2
  have H1 := Lib.hid h1; clear h1
  have H2 := Lib.hid h2; clear h2
  go_enter Tryz.func8, Tryz.ntmps8
  go_wp2_with fail
  go_loopw [5] (fun i wr => ∃ (k : Nat), k ≤ l.length ∧ i = .int .i64 k ∧ Below w.heap.size w wr) (fun i _ => l.length - (intOf i).toNat)
  case atStart => exact ⟨0, by omega, rfl, Below.refl _ _⟩
  case round =>
    obtain ⟨k, hk, rfl, hb⟩ := hrel
    have HB := Lib.hid hb; clear hb
    by_cases hlt : k < l.length
    · have hd : decide ((k : Int) < (l.length : Int)) = true := decide_eq_true (by omega)
      obtain ⟨g1, rfl, hg1, e1⟩ := owns_get H1.out hlt
      obtain ⟨g2, rfl, hg2, e2⟩ := owns_get H2.out hlt
      rw [strs_get l k hlt] at e1 e2
      have e1 := (HB.out.cell hg1).trans e1
      have e2 := (HB.out.cell hg2).trans e2
      have hki : (k : Int) < (l.length : Int) := by omega
      generalize bs l[k] = x at e1 e2
      go_wp2_with fail
      go_quiet (fail)
      go_wp2_with fail
      exact ⟨⟨k + 1, by omega, by simp, ⟨HB.out.os, HB.out.tape, HB.out.output, HB.out.size, HB.out.block⟩⟩, by simp [intOf] <;> omega⟩
    · have hd : decide ((k : Int) < (l.length : Int)) = false := decide_eq_false (by omega)
      go_wp2_with fail
      exact ⟨rfl, _, results_tmp rfl _ _ _, rfl, HB.out⟩
end Go.Proofs.Zw
