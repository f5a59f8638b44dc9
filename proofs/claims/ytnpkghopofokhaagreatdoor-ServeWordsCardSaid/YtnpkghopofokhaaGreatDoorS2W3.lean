/- What the document's Words does. -/
import Derived.Test.YtnpkghopofokhaaGreatDoorS2W2
namespace Go.Proofs.Zw
open Go Go.RowKit
theorem info42 : (Tryz.prog.info? 42).map (fun i => (i.zero, i.size, i.bytes)) = some (some (.agg #[.int .i64 0, .int .i64 0]), 2, 16) := by kernel_rfl
/-- Pairs of places, as cells. -/
def prs (l : List (Nat × Nat)) : List Value := l.flatMap fun x => [.int .i64 x.1, .int .i64 x.2]
theorem prs_snoc (l : List (Nat × Nat)) (a b : Nat) : prs (l ++ [(a, b)]) = prs l ++ [.int .i64 a, .int .i64 b] := by simp [prs]
/-- What stands between two places. -/
def part (T : List UInt8) (x : Nat × Nat) : List UInt8 := (T.drop x.1).take (x.2 - x.1)
theorem part_next {T : List UInt8} {f k : Nat} {c : UInt8} (hf : f ≤ k) (hc : T[k]? = some c) : part T (f, k + 1) = part T (f, k) ++ [c] := by
  unfold part
  rw [show (f, k + 1).2 - (f, k + 1).1 = (k - f) + 1 by simp <;> omega]
  exact take_get (by rw [List.getElem?_drop, show f + (k - f) = k by omega]; exact hc)
/-- The words that are not told yet, from a place on. -/
def cont (T : List UInt8) (k : Nat) (q : Bool) : Option Nat → List (List UInt8)
  | none => wordsL (T.drop k)
  | some f => (part T (f, k) ++ (cutQ (T.drop k) q).1) :: wordsL (cutQ (T.drop k) q).2
theorem cont_step {T : List UInt8} {f k : Nat} {c : UInt8} {q q' : Bool} (hf : f ≤ k) (hc : T[k]? = some c) (h : cutQ (c :: T.drop (k + 1)) q = (c :: (cutQ (T.drop (k + 1)) q').1, (cutQ (T.drop (k + 1)) q').2)) : cont T k q (some f) = cont T (k + 1) q' (some f) := by
  show _ :: _ = _ :: _
  rw [drop_get hc, h, part_next hf hc]; simp
theorem cont_slash {T : List UInt8} {f k : Nat} (hf : f ≤ k) (hc : T[k]? = some 92) (hk : k + 1 < T.length) : cont T k true (some f) = cont T (k + 1 + 1) true (some f) := by
  have hd : T[k + 1]? = some T[k + 1] := List.getElem?_eq_getElem hk
  show _ :: _ = _ :: _
  rw [drop_get hc, drop_get hd, cutQ_slash _ rfl, part_next (by omega) hd, part_next hf hc]; simp
theorem cont_last {T : List UInt8} {f k : Nat} (hf : f ≤ k) (hc : T[k]? = some 92) (hk : T.length ≤ k + 1) : cont T k true (some f) = cont T (k + 1) true (some f) := by
  show _ :: _ = _ :: _
  rw [drop_get hc, List.drop_eq_nil_of_le hk, cutQ_last _ rfl, cutQ_nil, part_next hf hc]; simp
theorem cont_start {T : List UInt8} {k : Nat} {c : UInt8} (hc : T[k]? = some c) (h : c ≠ 32) : cont T k false none = cont T k false (some k) := by
  show wordsL (T.drop k) = (part T (k, k) ++ (cutQ (T.drop k) false).1) :: wordsL (cutQ (T.drop k) false).2
  have h1 : skip (T.drop k) = T.drop k := by rw [drop_get hc]; exact skip_cons h _
  rw [words_some (by rw [h1, drop_get hc]; simp), h1]
  simp [part]
theorem cont_blank {T : List UInt8} {k : Nat} (hc : T[k]? = some 32) : cont T k false none = cont T (k + 1) false none := by
  show wordsL (T.drop k) = wordsL (T.drop (k + 1))
  rw [drop_get hc, words_blank]
theorem cont_over {T : List UInt8} {k : Nat} (q : Bool) (h : T.length ≤ k) : cont T k q none = [] := by
  show wordsL (T.drop k) = []
  rw [List.drop_eq_nil_of_le h, words_none rfl]
theorem cont_word {T : List UInt8} {f k : Nat} (hc : T[k]? = some 32) : cont T k false (some f) = part T (f, k) :: cont T (k + 1) false none := by
  show _ :: _ = _ :: wordsL (T.drop (k + 1))
  rw [drop_get hc, cutQ_blank, words_blank]; simp
theorem cont_end {T : List UInt8} {f k : Nat} (q : Bool) (h : T.length ≤ k) : cont T k q (some f) = part T (f, k) :: cont T (k + 1) q none := by
  rw [cont_over q (by omega)]
  show _ :: _ = _ :: _
  rw [List.drop_eq_nil_of_le h, cutQ_nil, words_none rfl]; simp
def fromV : Option Nat → Int
  | none => -1
  | some f => f
/-- Where the spans are, at a round's begin. -/
structure SpAt (t : ByteArray) (w : World) (sp : List (Nat × Nat)) (fr : Option Nat) (q : Bool) (k : Nat) (u3 u4 u5 u6 : Value) (wr : World) : Prop where
  v4 : u4 = .int .i64 (fromV fr)
  v5 : u5 = .bool q
  v6 : u6 = .int .i64 k
  le : k ≤ t.size + 1
  qf : fr = none → k ≤ t.size → q = false
  fk : ∀ f, fr = some f → f ≤ k ∧ k ≤ t.size
  len : sp.length ≤ k
  ok : ∀ x ∈ sp, x.1 ≤ x.2 ∧ x.2 ≤ t.size
  words : wordsL t.data.toList = sp.map (part t.data.toList) ++ cont t.data.toList k q fr
  slice : ∃ a l c, u3 = .slice a l c
  own : wr.ownsRow w.heap.size 42 2 u3 sp.length (prs sp)
  size : w.heap.size ≤ wr.heap.size
  below : Below w.heap.size w wr
def SpRel (t : ByteArray) (w : World) (u3 u4 u5 u6 : Value) (wr : World) : Prop := ∃ sp fr q k, SpAt t w sp fr q k u3 u4 u5 u6 wr
set_option maxHeartbeats 3200000 in
set_option maxRecDepth 1000000 in
theorem spans_calls (t : ByteArray) (w : World) (hs : t.size ≤ 3000) : Calls Tryz.prog 13 #[.string t] w fun e w' => (∃ v sp, e = .returned v ∧ sp.length ≤ 3001 ∧ (∀ x ∈ sp, x.1 ≤ x.2 ∧ x.2 ≤ t.size) ∧ wordsL t.data.toList = sp.map (part t.data.toList) ∧ w'.ownsRow w.heap.size 42 2 v sp.length (prs sp)) ∧ Below w.heap.size w w' := by
  obtain ⟨i0, hi, hz0, hz1, hz2⟩ := info_parts info42
  go_enter Tryz.func13, Tryz.ntmps13
  go_wp2_with fail
  go_loopw [3, 4, 5, 6] (fun u3 u4 u5 u6 wr => SpRel t w u3 u4 u5 u6 wr) (fun _ _ _ u6 _ => t.size + 2 - (intOf u6).toNat)
  case atStart => exact ⟨[], none, false, 0, rfl, rfl, rfl, by omega, fun _ _ => rfl, by simp, by simp, by simp, by simp [cont], ⟨_, _, _, rfl⟩, World.ownsRow_nil _ _ _ _, Nat.le_refl _, Below.refl _ _⟩
  case round =>
    obtain ⟨sp, fr, q, k, S⟩ := hrel
    obtain ⟨va, vl, vc, rfl⟩ := S.slice
    obtain rfl := S.v4
    obtain rfl := S.v5
    obtain rfl := S.v6
    have hk := S.le
    have hlen := S.len
    have hsz := S.size
    cases fr with
    | none =>
      rw [show fromV none = -1 from rfl]
      rcases Nat.lt_trichotomy k t.size with hlt | rfl | hgt
      · obtain rfl : q = false := S.qf rfl (by omega)
        have HS := Lib.hid S; clear S
        have hc := get_list t k hlt
        have hle : (k : Int) ≤ t.size := by omega
        have hne : ((k : Int) == t.size) = false := by rw [beq_eq_false_iff_ne]; omega
        by_cases h32 : (t[k].toNat : Int) = 32
        · have e : t[k] = 32 := byte_is (n := 32) (by decide) h32
          rw [e] at hc
          go_wp2_with fail
          exact ⟨⟨sp, none, false, k + 1, rfl, rfl, by simp, by omega, fun _ _ => rfl, by simp, by omega, HS.out.ok, by rw [HS.out.words, cont_blank hc], ⟨_, _, _, rfl⟩, HS.out.own, hsz, HS.out.below⟩, by simp [intOf] <;> omega⟩
        · have e : t[k] ≠ 32 := byte_not (n := 32) (by decide) h32
          have hw := HS.out.words
          rw [cont_start hc e] at hw
          have HW := Lib.hid hw; clear hw
          go_wp2_with fail
          all_goals
            first
              | (have e2 : (t[k].toNat : Int) = 92 := by assumption
                 exfalso; have e1 := eq_of_beq (show ((t[k].toNat : Int) == 34) = true by assumption); omega)
              | (have e1 : t[k] = 34 := byte_eq (n := 34) (by decide) (by assumption)
                 rw [e1] at hc
                 exact ⟨⟨sp, some k, !false, k + 1, rfl, rfl, by simp, by omega, by simp, by simp <;> omega, by omega, HS.out.ok, by rw [HW.out, cont_step (by omega) hc (cutQ_quote _ _)], ⟨_, _, _, rfl⟩, HS.out.own, hsz, HS.out.below⟩, by simp [intOf] <;> omega⟩)
              | (have e2 : t[k] = 92 := byte_is (n := 92) (by decide) (by assumption)
                 have h2 : (k : Int) + 1 < t.size := by assumption
                 rw [e2] at hc
                 exact ⟨⟨sp, some k, true, k + 1 + 1, rfl, rfl, by simp, by omega, by simp, by simp <;> omega, by omega, HS.out.ok, by rw [HW.out, cont_slash (by omega) hc (by rw [← size_list]; omega)], ⟨_, _, _, rfl⟩, HS.out.own, hsz, HS.out.below⟩, by simp [intOf] <;> omega⟩)
              | (have e2 : t[k] = 92 := byte_is (n := 92) (by decide) (by assumption)
                 have h2 : (t.size : Int) ≤ k + 1 := by assumption
                 rw [e2] at hc
                 exact ⟨⟨sp, some k, true, k + 1, rfl, rfl, by simp, by omega, by simp, by simp <;> omega, by omega, HS.out.ok, by rw [HW.out, cont_last (by omega) hc (by rw [← size_list]; omega)], ⟨_, _, _, rfl⟩, HS.out.own, hsz, HS.out.below⟩, by simp [intOf] <;> omega⟩)
              | (have e1 : t[k] ≠ 34 := byte_ne (n := 34) (by decide) (by assumption)
                 have e2 : t[k] = 92 := byte_is (n := 92) (by decide) (by assumption)
                 exact ⟨⟨sp, some k, false, k + 1, rfl, rfl, by simp, by omega, by simp, by simp <;> omega, by omega, HS.out.ok, by rw [HW.out, cont_step (by omega) hc (cutQ_else _ _ _ e1 (by simp) (by rw [e2]; simp))], ⟨_, _, _, rfl⟩, HS.out.own, hsz, HS.out.below⟩, by simp [intOf] <;> omega⟩)
              | (have e1 : t[k] ≠ 34 := byte_ne (n := 34) (by decide) (by assumption)
                 have e2 : t[k] ≠ 92 := byte_not (n := 92) (by decide) (by assumption)
                 exact ⟨⟨sp, some k, false, k + 1, rfl, rfl, by simp, by omega, by simp, by simp <;> omega, by omega, HS.out.ok, by rw [HW.out, cont_step (by omega) hc (cutQ_else _ _ _ e1 (fun hh => e2 hh.1) (fun hh => e hh.1))], ⟨_, _, _, rfl⟩, HS.out.own, hsz, HS.out.below⟩, by simp [intOf] <;> omega⟩)
              | (have e2 : t[k] = 32 := byte_is (n := 32) (by decide) (by assumption)
                 exact ⟨⟨sp, some k, false, k + 1, rfl, rfl, by simp, by omega, by simp, by simp <;> omega, by omega, HS.out.ok, by rw [HW.out, cont_step (by omega) hc (cutQ_else _ _ _ (by rw [e2]; decide) (by rw [e2]; simp) (fun hh => e hh.1))], ⟨_, _, _, rfl⟩, HS.out.own, hsz, HS.out.below⟩, by simp [intOf] <;> omega⟩)
              | trace_state
      · obtain rfl : q = false := S.qf rfl (Nat.le_refl _)
        have HS := Lib.hid S; clear S
        go_wp2_with fail
        exact ⟨⟨sp, none, false, t.size + 1, rfl, rfl, by simp, by omega, fun _ _ => rfl, by simp, by omega, HS.out.ok, by rw [HS.out.words, cont_over _ (by rw [← size_list]; omega), cont_over _ (by rw [← size_list]; omega)], ⟨_, _, _, rfl⟩, HS.out.own, hsz, HS.out.below⟩, by simp [intOf] <;> omega⟩
      · have HS := Lib.hid S; clear S
        have hgt2 : ¬ k ≤ t.size := by omega
        go_wp2_with fail
        refine ⟨rfl, _, results_tmp rfl _ _ _, ⟨.slice va vl vc, sp, rfl, by omega, HS.out.ok, ?_, HS.out.own⟩, HS.out.below⟩
        rw [HS.out.words, cont_over _ (by rw [← size_list]; omega), List.append_nil]
    | some f =>
      obtain ⟨hf1, hf2⟩ := S.fk f rfl
      rw [show fromV (some f) = (f : Int) from rfl]
      have HS := Lib.hid S; clear S
      rcases Nat.lt_or_ge k t.size with hlt | hge
      · have hc := get_list t k hlt
        have hne : ((k : Int) == t.size) = false := by rw [beq_eq_false_iff_ne]; omega
        by_cases h32 : (t[k].toNat : Int) = 32 ∧ q = false
        · obtain ⟨h32, rfl⟩ := h32
          have e : t[k] = 32 := byte_is (n := 32) (by decide) h32
          rw [e] at hc
          go_wp2_with (at_builtin; refine wpList_append_own _ rfl _ _ 39 rfl w.heap.size 42 i0 (.agg #[.int .i64 0, .int .i64 0]) 2 16 Tryz.underlying39 hi hz0 hz1 hz2 rfl (by decide) _ _ _ rfl (HS.out.own.alloc _) ⟨wr.heap.size, 0, none⟩ 1 1 [.int .i64 f, .int .i64 (k : Nat)] rfl rfl ?c1 ?c2 ?c3 ?c4 ?c5 ?_)
          case c1 =>
            intro j u hj
            have e : (⟨wr.heap.size, 0, none⟩ : Addr).add j = ⟨wr.heap.size, j, none⟩ := by unfold Addr.add; split <;> simp_all
            rw [e, World.cell?_alloc_at _ _ _ _ rfl, ← hj]; simp
          case c2 => intro u hu; simp at hu; rcases hu with rfl | rfl <;> rfl
          case c3 => unfold maxLen; omega
          case c4 => omega
          case c5 => simp; omega
          intro v' w2 hown' hgrow _
          have HB3 : Below w.heap.size wr w2 := ((Below.refl _ wr).alloc hsz _).grown hgrow (by simp <;> omega) (fun j hj => (HS.out.own.lt j hj).1)
          have HBW : Below w.heap.size w w2 := HS.out.below.trans HB3
          have q8 : ∃ a l c, v' = .slice a l c := by
            rcases hown'.2 with ⟨h, -⟩ | ⟨g, cp, cur, h, -⟩
            · exact ⟨_, _, _, h⟩
            · exact ⟨_, _, _, h⟩
          obtain ⟨va', vl', vc', rfl⟩ := q8
          have HO' := Lib.hid hown'; clear hown'
          have hs2 : w.heap.size ≤ w2.heap.size := Nat.le_trans hsz HB3.size
          clear HB3 hgrow
          have HBW' := Lib.hid HBW; clear HBW
          go_wp2_with fail
          refine ⟨⟨sp ++ [(f, k)], none, false, k + 1, rfl, rfl, by simp, by omega, fun _ _ => rfl, by simp, by rw [List.length_append]; simp; omega, ?_, ?_, ⟨_, _, _, rfl⟩, ?_, hs2, HBW'.out⟩, by simp [intOf] <;> omega⟩
          · intro x hx
            rcases List.mem_append.1 hx with hx | hx
            · exact HS.out.ok x hx
            · rw [List.mem_singleton] at hx; subst hx; exact ⟨hf1, by simp <;> omega⟩
          · rw [HS.out.words, cont_word hc]; simp
          · rw [prs_snoc, List.length_append]
            exact HO'.out
        · have hw := HS.out.words
          have HW := Lib.hid hw; clear hw
          have e0 : ¬ (t[k] = 32 ∧ q = false) := fun hh => h32 ⟨by rw [hh.1]; rfl, hh.2⟩
          cases q with
          | true =>
            clear h32
            go_wp2_with fail
            all_goals
              first
                | (have e2 : (t[k].toNat : Int) = 92 := by assumption
                   exfalso; have e1 := eq_of_beq (show ((t[k].toNat : Int) == 34) = true by assumption); omega)
                | (have e1 : t[k] = 34 := byte_eq (n := 34) (by decide) (by assumption)
                   rw [e1] at hc
                   exact ⟨⟨sp, some f, !true, k + 1, rfl, rfl, by simp, by omega, by simp, by simp <;> omega, by omega, HS.out.ok, by rw [HW.out, cont_step (by omega) hc (cutQ_quote _ _)], ⟨_, _, _, rfl⟩, HS.out.own, hsz, HS.out.below⟩, by simp [intOf] <;> omega⟩)
                | (have e2 : t[k] = 92 := byte_is (n := 92) (by decide) (by assumption)
                   have h2 : (k : Int) + 1 < t.size := by assumption
                   rw [e2] at hc
                   exact ⟨⟨sp, some f, true, k + 1 + 1, rfl, rfl, by simp, by omega, by simp, by simp <;> omega, by omega, HS.out.ok, by rw [HW.out, cont_slash (by omega) hc (by rw [← size_list]; omega)], ⟨_, _, _, rfl⟩, HS.out.own, hsz, HS.out.below⟩, by simp [intOf] <;> omega⟩)
                | (have e2 : t[k] = 92 := byte_is (n := 92) (by decide) (by assumption)
                   have h2 : (t.size : Int) ≤ k + 1 := by assumption
                   rw [e2] at hc
                   exact ⟨⟨sp, some f, true, k + 1, rfl, rfl, by simp, by omega, by simp, by simp <;> omega, by omega, HS.out.ok, by rw [HW.out, cont_last (by omega) hc (by rw [← size_list]; omega)], ⟨_, _, _, rfl⟩, HS.out.own, hsz, HS.out.below⟩, by simp [intOf] <;> omega⟩)
                | (have e1 : t[k] ≠ 34 := byte_ne (n := 34) (by decide) (by assumption)
                   have e2 : t[k] = 92 := byte_is (n := 92) (by decide) (by assumption)
                   exact ⟨⟨sp, some f, true, k + 1, rfl, rfl, by simp, by omega, by simp, by simp <;> omega, by omega, HS.out.ok, by rw [HW.out, cont_step (by omega) hc (cutQ_else _ _ _ e1 (by simp) (by rw [e2]; simp))], ⟨_, _, _, rfl⟩, HS.out.own, hsz, HS.out.below⟩, by simp [intOf] <;> omega⟩)
                | (have e1 : t[k] ≠ 34 := byte_ne (n := 34) (by decide) (by assumption)
                   have e2 : t[k] ≠ 92 := byte_not (n := 92) (by decide) (by assumption)
                   exact ⟨⟨sp, some f, true, k + 1, rfl, rfl, by simp, by omega, by simp, by simp <;> omega, by omega, HS.out.ok, by rw [HW.out, cont_step (by omega) hc (cutQ_else _ _ _ e1 (fun hh => e2 hh.1) e0)], ⟨_, _, _, rfl⟩, HS.out.own, hsz, HS.out.below⟩, by simp [intOf] <;> omega⟩)
                | (have e2 : t[k] = 32 := byte_is (n := 32) (by decide) (by assumption)
                   exact ⟨⟨sp, some f, true, k + 1, rfl, rfl, by simp, by omega, by simp, by simp <;> omega, by omega, HS.out.ok, by rw [HW.out, cont_step (by omega) hc (cutQ_else _ _ _ (by rw [e2]; decide) (by rw [e2]; simp) e0)], ⟨_, _, _, rfl⟩, HS.out.own, hsz, HS.out.below⟩, by simp [intOf] <;> omega⟩)
                | trace_state
          | false =>
            have h32' : ¬ (t[k].toNat : Int) = 32 := fun hh => h32 ⟨hh, rfl⟩
            clear h32
            go_wp2_with fail
            all_goals
              first
                | (have e2 : (t[k].toNat : Int) = 92 := by assumption
                   exfalso; have e1 := eq_of_beq (show ((t[k].toNat : Int) == 34) = true by assumption); omega)
                | (have e1 : t[k] = 34 := byte_eq (n := 34) (by decide) (by assumption)
                   rw [e1] at hc
                   exact ⟨⟨sp, some f, !false, k + 1, rfl, rfl, by simp, by omega, by simp, by simp <;> omega, by omega, HS.out.ok, by rw [HW.out, cont_step (by omega) hc (cutQ_quote _ _)], ⟨_, _, _, rfl⟩, HS.out.own, hsz, HS.out.below⟩, by simp [intOf] <;> omega⟩)
                | (have e2 : t[k] = 92 := byte_is (n := 92) (by decide) (by assumption)
                   have h2 : (k : Int) + 1 < t.size := by assumption
                   rw [e2] at hc
                   exact ⟨⟨sp, some f, true, k + 1 + 1, rfl, rfl, by simp, by omega, by simp, by simp <;> omega, by omega, HS.out.ok, by rw [HW.out, cont_slash (by omega) hc (by rw [← size_list]; omega)], ⟨_, _, _, rfl⟩, HS.out.own, hsz, HS.out.below⟩, by simp [intOf] <;> omega⟩)
                | (have e2 : t[k] = 92 := byte_is (n := 92) (by decide) (by assumption)
                   have h2 : (t.size : Int) ≤ k + 1 := by assumption
                   rw [e2] at hc
                   exact ⟨⟨sp, some f, true, k + 1, rfl, rfl, by simp, by omega, by simp, by simp <;> omega, by omega, HS.out.ok, by rw [HW.out, cont_last (by omega) hc (by rw [← size_list]; omega)], ⟨_, _, _, rfl⟩, HS.out.own, hsz, HS.out.below⟩, by simp [intOf] <;> omega⟩)
                | (have e1 : t[k] ≠ 34 := byte_ne (n := 34) (by decide) (by assumption)
                   have e2 : t[k] = 92 := byte_is (n := 92) (by decide) (by assumption)
                   exact ⟨⟨sp, some f, false, k + 1, rfl, rfl, by simp, by omega, by simp, by simp <;> omega, by omega, HS.out.ok, by rw [HW.out, cont_step (by omega) hc (cutQ_else _ _ _ e1 (by simp) (by rw [e2]; simp))], ⟨_, _, _, rfl⟩, HS.out.own, hsz, HS.out.below⟩, by simp [intOf] <;> omega⟩)
                | (have e1 : t[k] ≠ 34 := byte_ne (n := 34) (by decide) (by assumption)
                   have e2 : t[k] ≠ 92 := byte_not (n := 92) (by decide) (by assumption)
                   exact ⟨⟨sp, some f, false, k + 1, rfl, rfl, by simp, by omega, by simp, by simp <;> omega, by omega, HS.out.ok, by rw [HW.out, cont_step (by omega) hc (cutQ_else _ _ _ e1 (fun hh => e2 hh.1) e0)], ⟨_, _, _, rfl⟩, HS.out.own, hsz, HS.out.below⟩, by simp [intOf] <;> omega⟩)
                | (have e2 : t[k] = 32 := byte_is (n := 32) (by decide) (by assumption)
                   exact ⟨⟨sp, some f, false, k + 1, rfl, rfl, by simp, by omega, by simp, by simp <;> omega, by omega, HS.out.ok, by rw [HW.out, cont_step (by omega) hc (cutQ_else _ _ _ (by rw [e2]; decide) (by rw [e2]; simp) e0)], ⟨_, _, _, rfl⟩, HS.out.own, hsz, HS.out.below⟩, by simp [intOf] <;> omega⟩)
                | trace_state
      · obtain rfl : k = t.size := by omega
        go_wp2_with (at_builtin; refine wpList_append_own _ rfl _ _ 39 rfl w.heap.size 42 i0 (.agg #[.int .i64 0, .int .i64 0]) 2 16 Tryz.underlying39 hi hz0 hz1 hz2 rfl (by decide) _ _ _ rfl (HS.out.own.alloc _) ⟨wr.heap.size, 0, none⟩ 1 1 [.int .i64 f, .int .i64 (t.size : Nat)] rfl rfl ?c1 ?c2 ?c3 ?c4 ?c5 ?_)
        case c1 =>
          intro j u hj
          have e : (⟨wr.heap.size, 0, none⟩ : Addr).add j = ⟨wr.heap.size, j, none⟩ := by unfold Addr.add; split <;> simp_all
          rw [e, World.cell?_alloc_at _ _ _ _ rfl, ← hj]; simp
        case c2 => intro u hu; simp at hu; rcases hu with rfl | rfl <;> rfl
        case c3 => unfold maxLen; omega
        case c4 => omega
        case c5 => simp; omega
        intro v' w2 hown' hgrow _
        have HB3 : Below w.heap.size wr w2 := ((Below.refl _ wr).alloc hsz _).grown hgrow (by simp <;> omega) (fun j hj => (HS.out.own.lt j hj).1)
        have HBW : Below w.heap.size w w2 := HS.out.below.trans HB3
        have q8 : ∃ a l c, v' = .slice a l c := by
          rcases hown'.2 with ⟨h, -⟩ | ⟨g, cp, cur, h, -⟩
          · exact ⟨_, _, _, h⟩
          · exact ⟨_, _, _, h⟩
        obtain ⟨va', vl', vc', rfl⟩ := q8
        have HO' := Lib.hid hown'; clear hown'
        have hs2 : w.heap.size ≤ w2.heap.size := Nat.le_trans hsz HB3.size
        clear HB3 hgrow
        have HBW' := Lib.hid HBW; clear HBW
        go_wp2_with fail
        refine ⟨⟨sp ++ [(f, t.size)], none, q, t.size + 1, rfl, rfl, by simp, by omega, fun _ hh => by omega, by simp, by rw [List.length_append]; simp; omega, ?_, ?_, ⟨_, _, _, rfl⟩, ?_, hs2, HBW'.out⟩, by simp [intOf] <;> omega⟩
        · intro x hx
          rcases List.mem_append.1 hx with hx | hx
          · exact HS.out.ok x hx
          · rw [List.mem_singleton] at hx; subst hx; exact ⟨hf1, by simp <;> omega⟩
        · rw [HS.out.words, cont_end q (by rw [← size_list]; omega)]; simp
        · rw [prs_snoc, List.length_append]
          exact HO'.out
end Go.Proofs.Zw
