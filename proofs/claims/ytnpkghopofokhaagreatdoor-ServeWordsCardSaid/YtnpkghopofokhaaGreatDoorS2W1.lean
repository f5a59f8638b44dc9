/- What strings.TrimLeft does with blanks. -/
import Derived.Test.YtnpkghopofokhaaGreatDoorS2Wl
import Derived.Test.YtnpkghopofokhaaGreatDoorProg
import Derived.Test.YtnpkghopofokhaaGreatDoorAmOps1
import Derived.WalkKit
import Derived.ProofKit
import Derived.Carry
import Derived.Handy
import Derived.Lib.Hide
import Derived.BigQuiet
namespace Go.Proofs.Zw
open Go Go.RowKit
def bs (l : List UInt8) : ByteArray := ⟨l.toArray⟩
theorem bs_list (s : ByteArray) : bs s.data.toList = s := rfl
theorem bs_inj {a b : List UInt8} (h : bs a = bs b) : a = b := by
  have := congrArg (fun x : ByteArray => x.data.toList) h
  simpa [bs] using this
theorem bs_size (l : List UInt8) : (bs l).size = l.length := by simp [bs, ByteArray.size]
theorem size_list (s : ByteArray) : s.size = s.data.toList.length := by rw [Array.length_toList]; rfl
theorem get_list (s : ByteArray) (i : Nat) (h : i < s.size) : s.data.toList[i]? = some s[i] := by
  have h2 : i < s.data.size := h
  rw [Array.getElem?_toList, Array.getElem?_eq_getElem h2]
  rfl
theorem extract_list (s : ByteArray) (a b : Nat) : (s.extract a b).data.toList = (s.data.toList.drop a).take (b - a) := by
  rw [ByteArray.data_extract, Array.toList_extract]
theorem drop_get {l : List UInt8} {i : Nat} {c : UInt8} (h : l[i]? = some c) : l.drop i = c :: l.drop (i + 1) := by
  obtain ⟨h1, h2⟩ := List.getElem?_eq_some_iff.1 h
  rw [List.drop_eq_getElem_cons h1, h2]
theorem byte_eq {c : UInt8} {n : Nat} (hn : n < 256) (h : ((c.toNat : Int) == (n : Int)) = true) : c = UInt8.ofNat n := by
  have h1 : (c.toNat : Int) = n := eq_of_beq h
  have h2 : (UInt8.ofNat n).toNat = n := by rw [UInt8.toNat_ofNat']; exact Nat.mod_eq_of_lt hn
  exact UInt8.toNat.inj (by omega)
theorem byte_ne {c : UInt8} {n : Nat} (hn : n < 256) (h : ((c.toNat : Int) == (n : Int)) = false) : c ≠ UInt8.ofNat n := by
  intro e
  have h1 : ¬ (c.toNat : Int) = n := ne_of_beq_false h
  have h2 : (UInt8.ofNat n).toNat = n := by rw [UInt8.toNat_ofNat']; exact Nat.mod_eq_of_lt hn
  apply h1; rw [e, h2]
set_option maxHeartbeats 800000 in
set_option maxRecDepth 1000000 in
theorem trim_byte (s : ByteArray) (w : World) (hs : s.size ≤ 9000) : Calls Tryz.prog 27 #[.string s, .int .u8 32] w fun e w' => e = .returned (.string (bs (skip s.data.toList))) ∧ Below w.heap.size w w' := by
  go_enter Tryz.func27, Tryz.ntmps27
  go_wp2
  go_loopw [0] (fun i wr => ∃ t : ByteArray, i = .string t ∧ skip t.data.toList = skip s.data.toList ∧ t.size ≤ 9000 ∧ Below w.heap.size w wr) (fun i _ => match i with | .string t => t.size | _ => 0)
  case atStart => exact ⟨s, rfl, rfl, hs, Below.refl _ _⟩
  case round =>
    obtain ⟨t, rfl, ht, hsz, hb⟩ := hrel
    go_wp2
    · have h0 := get_list t 0 (by assumption)
      have h1 : t[0] = 32 := byte_eq (n := 32) (by decide) (by assumption)
      rw [h1] at h0
      have h2 := drop_get h0
      have hl : (t.extract 1 t.size).data.toList = t.data.toList.drop 1 := by
        rw [extract_list, size_list, List.take_of_length_le (by simp)]
      refine ⟨⟨_, rfl, ?_, ?_, hb⟩, ?_⟩
      · rw [hl, ← ht, ← List.drop_zero (l := t.data.toList), h2, skip_blank]; simp
      · rw [size_list, hl]; simp; rw [size_list] at hsz; simp at hsz; omega
      · show (t.extract 1 t.size).size < t.size
        rw [size_list, hl, size_list t]; rename_i hp _; rw [size_list] at hp; simp at hp ⊢; omega
    · have h0 := get_list t 0 (by assumption)
      have h1 : t[0] ≠ 32 := byte_ne (n := 32) (by decide) (by assumption)
      have h2 := drop_get h0
      refine ⟨rfl, _, results_tmp rfl _ _ _, ?_, hb⟩
      show Ending.returned (Value.string t) = _
      rw [← ht, ← List.drop_zero (l := t.data.toList), h2, skip_cons h1, ← h2, List.drop_zero, bs_list]
    · refine ⟨rfl, _, results_tmp rfl _ _ _, ?_, hb⟩
      show Ending.returned (Value.string t) = _
      have h1 : t.data.toList = [] := List.eq_nil_of_length_eq_zero (by rw [← size_list]; omega)
      rw [← ht, h1, skip_nil, ← h1, bs_list]
set_option maxHeartbeats 800000 in
set_option maxRecDepth 1000000 in
/-- strings.TrimLeft, of blanks. -/
theorem trim_calls (s : ByteArray) (w : World) (hs : s.size ≤ 9000) : Calls Tryz.prog 18 #[.string s, .string { data := #[32] }] w fun e w' => e = .returned (.string (bs (skip s.data.toList))) ∧ Below w.heap.size w w' := by
  go_enter Tryz.func18, Tryz.ntmps18
  go_wp2_with fail
  · rename_i h
    refine ⟨rfl, _, results_tmp rfl _ _ _, ?_, Below.refl _ _⟩
    show Ending.returned (Value.string s) = _
    rw [ByteArray.toList_eq] at h
    rw [h, skip_nil, ← h, bs_list]
  · rename_i h1 h2
    rw [List.isEmpty_iff] at h2
    exact absurd h2 h1
  · refine Calls.mono (show Calls Tryz.prog 27 #[.string s, .int .u8 32] w _ from trim_byte s w hs) ?_
    rintro en w1 ⟨rfl, hb⟩
    go_wp2
    exact ⟨rfl, _, results_tmp rfl _ _ _, rfl, hb⟩
theorem byte_is {c : UInt8} {n : Nat} (hn : n < 256) (h : (c.toNat : Int) = (n : Int)) : c = UInt8.ofNat n := byte_eq hn (by simpa using h)
theorem byte_not {c : UInt8} {n : Nat} (hn : n < 256) (h : ¬ (c.toNat : Int) = (n : Int)) : c ≠ UInt8.ofNat n := byte_ne hn (by rw [beq_eq_false_iff_ne]; exact h)
theorem take_get {l : List UInt8} {i : Nat} {c : UInt8} (h : l[i]? = some c) : l.take (i + 1) = l.take i ++ [c] := by rw [List.take_add_one, h]; rfl
theorem cut_step {T : List UInt8} {k : Nat} {c : UInt8} {qb qb' : Bool} (hc : T[k]? = some c) (hcut : cutQ T false = (T.take k ++ (cutQ (T.drop k) qb).1, (cutQ (T.drop k) qb).2))
    (h : cutQ (c :: T.drop (k + 1)) qb = (c :: (cutQ (T.drop (k + 1)) qb').1, (cutQ (T.drop (k + 1)) qb').2)) : cutQ T false = (T.take (k + 1) ++ (cutQ (T.drop (k + 1)) qb').1, (cutQ (T.drop (k + 1)) qb').2) := by
  rw [hcut, drop_get hc, h, take_get hc]; simp
theorem cut_step2 {T : List UInt8} {k : Nat} (hc : T[k]? = some 92) (hcut : cutQ T false = (T.take k ++ (cutQ (T.drop k) true).1, (cutQ (T.drop k) true).2)) : cutQ T false = (T.take (k + 1 + 1) ++ (cutQ (T.drop (k + 1 + 1)) true).1, (cutQ (T.drop (k + 1 + 1)) true).2) := by
  cases hd : T[k + 1]? with
  | none =>
    have h1 : T.length ≤ k + 1 := List.getElem?_eq_none_iff.1 hd
    rw [hcut, drop_get hc, List.drop_eq_nil_of_le h1, cutQ_last _ rfl, List.drop_eq_nil_of_le (by omega), cutQ_nil, List.take_of_length_le (i := k + 1 + 1) (by omega)]
    have := take_get hc
    rw [List.take_of_length_le h1] at this
    simp [← this]
  | some d =>
    rw [hcut, drop_get hc, drop_get hd, cutQ_slash _ rfl, take_get hd, take_get hc]; simp
set_option maxHeartbeats 1600000 in
set_option maxRecDepth 1000000 in
/-- serve.cut: a line's first word, and what stands behind it. -/
theorem cut_calls (s : ByteArray) (w : World) (hs : s.size ≤ 9000) : Calls Tryz.prog 12 #[.string s] w fun e w' => e = .returned (.tuple #[.string (bs (cutQ (skip s.data.toList) false).1), .string (bs (cutQ (skip s.data.toList) false).2)]) ∧ Below w.heap.size w w' := by
  go_enter Tryz.func12, Tryz.ntmps12
  go_wp2_with fail
  refine (trim_calls s w hs).mono ?_
  rintro en w1 ⟨rfl, hb⟩
  have hsk : (bs (skip s.data.toList)).data.toList = skip s.data.toList := rfl
  have hle : (bs (skip s.data.toList)).size ≤ 9000 := by rw [bs_size]; have := skip_len s.data.toList; rw [size_list] at hs; omega
  generalize bs (skip s.data.toList) = t at hsk hle
  go_wp2_with fail
  go_loopw [4, 5] (fun q i wr => ∃ (qb : Bool) (k : Nat), q = .bool qb ∧ i = .int .i64 k ∧ k ≤ t.size + 1 ∧ cutQ t.data.toList false = (t.data.toList.take k ++ (cutQ (t.data.toList.drop k) qb).1, (cutQ (t.data.toList.drop k) qb).2) ∧ Below w.heap.size w wr) (fun _ i _ => t.size + 1 - (intOf i).toNat)
  case atStart => exact ⟨false, 0, rfl, rfl, by omega, by simp, hb⟩
  case round =>
    obtain ⟨qb, k, rfl, rfl, hk, hcut, hb⟩ := hrel
    go_wp2_with fail
    · rename_i hlt h34
      have hc := get_list t k hlt
      have e : t[k] = 34 := byte_eq (n := 34) (by decide) h34
      rw [e] at hc
      exact ⟨⟨!qb, k + 1, rfl, by simp, by omega, cut_step hc hcut (cutQ_quote _ _), hb⟩, by simp [intOf]; omega⟩
    · rename_i hlt h34 h92 hq
      subst hq
      have hc := get_list t k hlt
      have e : t[k] = 92 := byte_is (n := 92) (by decide) h92
      rw [e] at hc
      exact ⟨⟨true, k + 1 + 1, rfl, by simp, by omega, cut_step2 hc hcut, hb⟩, by simp [intOf]; omega⟩
    · rename_i hlt h34 h92 hq
      have hc := get_list t k hlt
      have e : t[k] = 92 := byte_is (n := 92) (by decide) h92
      have e3 : t[k] ≠ 34 := byte_ne (n := 34) (by decide) h34
      exact ⟨⟨qb, k + 1, rfl, by simp, by omega, cut_step hc hcut (cutQ_else _ _ _ e3 (by rw [hq]; simp) (by rw [e]; simp)), hb⟩, by simp [intOf]; omega⟩
    · have hlt : k < t.size := by assumption
      have h32 : (t[k].toNat : Int) = 32 := by assumption
      have hq : (!qb) = true := by assumption
      have hc := get_list t k hlt
      have e : t[k] = 32 := byte_is (n := 32) (by decide) h32
      have e2 : qb = false := by simpa using hq
      subst e2
      rw [e] at hc
      go_quiet (fail)
      go_wp2
      rw [drop_get hc, cutQ_blank, ← drop_get hc, List.append_nil] at hcut
      refine ⟨rfl, _, results_tmp2 rfl _ _ _, ?_, ⟨hb.os, hb.tape, hb.output, hb.size, hb.block⟩⟩
      have e1 : t.extract 0 k = bs (t.data.toList.take k) := by rw [← bs_list (t.extract 0 k), extract_list]; simp
      have e2 : t.extract k t.size = bs (t.data.toList.drop k) := by rw [← bs_list (t.extract k t.size), extract_list, List.take_of_length_le (by rw [size_list]; simp)]
      rw [← hsk, hcut, ← e1, ← e2]
      rfl
    · rename_i hlt h34 h92 h32 hq
      have hc := get_list t k hlt
      have e : t[k] = 32 := byte_is (n := 32) (by decide) h32
      have e3 : t[k] ≠ 34 := byte_ne (n := 34) (by decide) h34
      exact ⟨⟨qb, k + 1, rfl, by simp, by omega, cut_step hc hcut (cutQ_else _ _ _ e3 (by rw [e]; simp) (by simp at hq; rw [hq]; simp)), hb⟩, by simp [intOf]; omega⟩
    · rename_i hlt h34 h92 h32
      have hc := get_list t k hlt
      have e : t[k] ≠ 32 := byte_not (n := 32) (by decide) h32
      have e2 : t[k] ≠ 92 := byte_not (n := 92) (by decide) h92
      have e3 : t[k] ≠ 34 := byte_ne (n := 34) (by decide) h34
      exact ⟨⟨qb, k + 1, rfl, by simp, by omega, cut_step hc hcut (cutQ_else _ _ _ e3 (fun hh => e2 hh.1) (fun hh => e hh.1)), hb⟩, by simp [intOf]; omega⟩
    · rename_i hlt
      have h1 : t.data.toList.length ≤ k := by rw [← size_list]; omega
      rw [List.drop_eq_nil_of_le h1, cutQ_nil, List.take_of_length_le h1, List.append_nil] at hcut
      refine ⟨rfl, _, results_tmp2 rfl _ _ _, ?_, hb⟩
      rw [← hsk, hcut]
      rfl
end Go.Proofs.Zw
