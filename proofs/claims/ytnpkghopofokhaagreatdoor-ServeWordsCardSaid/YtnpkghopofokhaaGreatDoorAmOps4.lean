/- A part of the abstract machine, or of a proof over it. -/
import Derived.Test.YtnpkghopofokhaaGreatDoorAmOps3
namespace Go.Am
variable {p : Pg} {P : Program} {r : Ren} {h : H} {w : World}

/-! ### Text -/
theorem toNat_ofNat_lt {n : Nat} (hn : n < 256) : (UInt8.ofNat n).toNat = n := by simp [UInt8.toNat_ofNat', Nat.mod_eq_of_lt hn]
theorem valid_nat (m : Nat) : Utf8.valid (m : Int) = validR m := by
  simp only [Utf8.valid, validR, blt_iff, ble_iff]
  rw [Bool.eq_iff_iff]; simp; omega
theorem cpR_eq (n : Int) : (if Utf8.valid n then n.toNat else Utf8.runeError) = cpR n := by
  cases n with
  | ofNat m =>
    rw [show (Int.ofNat m) = (m : Int) from rfl, valid_nat]
    show _ = (match validR m with | true => m | false => 0xFFFD)
    cases validR m <;> simp [Utf8.runeError]
  | negSucc m =>
    have hv : Utf8.valid (Int.negSucc m) = false := by
      rw [Bool.eq_false_iff]; intro hh; simp [Utf8.valid] at hh; omega
    rw [hv]; rfl
theorem cpR_lt (n : Int) : cpR n < 1114112 := by
  cases n with
  | ofNat m =>
    show (match validR m with | true => m | false => 0xFFFD) < _
    cases hv : validR m with
    | false => simp
    | true =>
      simp only [validR, blt_iff, ble_iff, Bool.or_eq_true, Bool.and_eq_true, decide_eq_true_eq] at hv
      simp only []; omega
  | negSucc m => show 0xFFFD < _; omega
theorem encR_sound (n : Int) : (Utf8.encode n).data.toList.map UInt8.toNat = encR n := by
  unfold Utf8.encode encR
  simp only [cpR_eq]
  have hb := cpR_lt n
  generalize cpR n = c at hb
  simp only [encC, blt_iff]
  by_cases h1 : c < 0x80
  · simp only [h1, if_true, decide_true, List.map_cons, List.map_nil]; rw [toNat_ofNat_lt (by omega)]
  · by_cases h2 : c < 0x800
    · simp only [h1, h2, if_false, if_true, decide_false, decide_true, List.map_cons, List.map_nil]
      rw [toNat_ofNat_lt (by omega), toNat_ofNat_lt (by omega)]
    · by_cases h3 : c < 0x10000
      · simp only [h1, h2, h3, if_false, if_true, decide_false, decide_true, List.map_cons, List.map_nil]
        rw [toNat_ofNat_lt (by omega), toNat_ofNat_lt (by omega), toNat_ofNat_lt (by omega)]
      · simp only [h1, h2, h3, if_false, decide_false, List.map_cons, List.map_nil]
        rw [toNat_ofNat_lt (by omega), toNat_ofNat_lt (by omega), toNat_ofNat_lt (by omega), toNat_ofNat_lt (by omega)]
theorem decR_sound (s : ByteArray) (i : Nat) (hi : i < s.size) : Utf8.decode s i = decR ((s.data.toList.map UInt8.toNat).drop i) := by
  have hsz : s.size = (s.data.toList.map UInt8.toNat).length := by rw [List.length_map, Array.length_toList]; rfl
  have hat : ∀ k, i + k < s.size → (s.get! (i + k)).toNat = ((s.data.toList.map UInt8.toNat).drop i)[k]?.getD 0 := fun k hk => by
    have hk' : i + k < s.data.size := hk
    rw [List.getElem?_drop, List.getElem?_map]
    show (s.data[i + k]!).toNat = _
    rw [getElem!_pos s.data (i + k) hk', Array.getElem?_toList, Array.getElem?_eq_getElem hk']
    rfl
  have hlen : ((s.data.toList.map UInt8.toNat).drop i).length = s.size - i := by rw [List.length_drop, ← hsz]
  generalize (s.data.toList.map UInt8.toNat).drop i = l at hat hlen
  unfold Utf8.decode
  cases l with
  | nil => simp at hlen; omega
  | cons b0 l1 =>
    have a0 := hat 0 (by omega)
    simp only [Nat.add_zero, List.getElem?_cons_zero, Option.getD_some] at a0
    simp only [List.length_cons] at hlen
    simp only [Nat.add_zero, a0, decR, blt_iff]
    by_cases h1 : b0 < 0x80
    · simp [h1]
    · simp only [h1, if_false, decide_false]
      cases l1 with
      | nil =>
        have hn : ¬ i + 1 < s.size := by simp at hlen; omega
        simp [hn, Utf8.runeError]
      | cons b1 l2 =>
        simp only [List.length_cons] at hlen
        have hn1 : i + 1 < s.size := by omega
        have a1 := hat 1 hn1
        simp only [List.getElem?_cons_succ, List.getElem?_cons_zero, Option.getD_some] at a1
        simp only [hn1, decide_true, Bool.true_and, a1, beq_iff, isCont, ble_iff, ge_iff_le]
        by_cases c1 : b0 / 32 = 6 ∧ b1 / 64 = 2
        · simp [c1.1, c1.2]
          by_cases c2 : 128 ≤ b0 % 32 * 64 + b1 % 64 <;> simp [c2, Utf8.runeError]
        · have e1 : (b0 / 32 == 6 && b1 / 64 == 2) = false := by
            rw [Bool.eq_false_iff]; intro hh; simp at hh; exact c1 hh
          have e2 : (decide (b0 / 32 = 6) && decide (b1 / 64 = 2)) = false := by
            rw [Bool.eq_false_iff]; intro hh; simp at hh; exact c1 hh
          simp only [e1, e2, Bool.false_eq_true, if_false]
          cases l2 with
          | nil =>
            have hn : ¬ i + 2 < s.size := by simp at hlen; omega
            simp [hn, Utf8.runeError]
          | cons b2 l3 =>
            simp only [List.length_cons] at hlen
            have hn2 : i + 2 < s.size := by omega
            have a2 := hat 2 hn2
            simp only [List.getElem?_cons_succ, List.getElem?_cons_zero, Option.getD_some] at a2
            simp only [hn2, decide_true, Bool.true_and, a2]
            have hval : ∀ c : Nat, Utf8.valid (c : Int) = validR c := valid_nat
            have e3 : (b0 / 16 == 14 && b1 / 64 == 2 && b2 / 64 == 2) = (decide (b0 / 16 = 14) && decide (b1 / 64 = 2) && decide (b2 / 64 = 2)) := rfl
            rw [e3]
            cases hb3 : (decide (b0 / 16 = 14) && decide (b1 / 64 = 2) && decide (b2 / 64 = 2)) with
            | true =>
              simp only [if_true]
              rw [hval]
              cases (decide (2048 ≤ b0 % 16 * 4096 + b1 % 64 * 64 + b2 % 64) && validR (b0 % 16 * 4096 + b1 % 64 * 64 + b2 % 64)) <;> simp [Utf8.runeError]
            | false =>
              simp only [Bool.false_eq_true, if_false]
              cases l3 with
              | nil =>
                have hn : ¬ i + 3 < s.size := by simp at hlen; omega
                simp [hn, Utf8.runeError]
              | cons b3 l4 =>
                simp only [List.length_cons] at hlen
                have hn3 : i + 3 < s.size := by omega
                have a3 := hat 3 hn3
                simp only [List.getElem?_cons_succ, List.getElem?_cons_zero, Option.getD_some] at a3
                simp only [hn3, decide_true, Bool.true_and, a3]
                have e4 : (b0 / 8 == 30 && b1 / 64 == 2 && b2 / 64 == 2 && b3 / 64 == 2) = (decide (b0 / 8 = 30) && decide (b1 / 64 = 2) && decide (b2 / 64 = 2) && decide (b3 / 64 = 2)) := rfl
                rw [e4]
                cases hb4 : (decide (b0 / 8 = 30) && decide (b1 / 64 = 2) && decide (b2 / 64 = 2) && decide (b3 / 64 = 2)) with
                | true =>
                  simp only [if_true]
                  rw [hval]
                  cases (decide (65536 ≤ b0 % 8 * 262144 + b1 % 64 * 4096 + b2 % 64 * 64 + b3 % 64) && validR (b0 % 8 * 262144 + b1 % 64 * 4096 + b2 % 64 * 64 + b3 % 64)) <;> simp [Utf8.runeError]
                | false => simp [Utf8.runeError]
theorem u8s_sound (r : Ren) : ∀ l : List UInt8, VRs r (u8s (l.map UInt8.toNat)) (l.map fun b => Value.int .u8 b.toNat)
  | [] => .nil
  | _ :: l => .cons (.int _ _) (u8s_sound r l)
theorem byteV_sound {v : V} {v' : Value} {b : Nat} (hv : VR r v v') (e : byteV v = some b) : v' = .int .u8 b ∧ b < 256 := by
  cases hv <;> simp only [byteV] at e <;> try (cases e; done)
  rename_i k n
  cases k <;> try (cases e; done)
  cases n with
  | negSucc m => cases e
  | ofNat m =>
    simp only [blt_iff] at e
    by_cases hm : m < 256
    · simp only [hm, decide_true, Option.some.injEq] at e; subst e; exact ⟨rfl, hm⟩
    · simp [hm] at e
theorem bytesV_sound : ∀ {l : List V} {l' : List Value} {bs : List Nat}, VRs r l l' → bytesV l = some bs → l' = bs.map (fun b : Nat => Value.int .u8 (b : Int)) ∧ ∀ b ∈ bs, b < 256
  | _, _, bs, .nil, e => by simp only [bytesV, Option.some.injEq] at e; subst e; simp
  | _, _, bs, .cons hv t, e => by
    simp only [bytesV] at e
    split at e
    · rename_i b l h1 h2
      simp only [Option.some.injEq] at e; subst e
      obtain ⟨rfl, hb⟩ := byteV_sound hv h1
      obtain ⟨rfl, hbs⟩ := bytesV_sound t h2
      exact ⟨rfl, by simpa [hb] using hbs⟩
    · cases e
/-- A string of these bytes. -/
def strOf (bs : List Nat) : ByteArray := ⟨(bs.map UInt8.ofNat).toArray⟩
theorem strOf_sound (r : Ren) {bs : List Nat} (h : ∀ b ∈ bs, b < 256) : VR r (.str bs) (.string (strOf bs)) := by
  have : bs = (strOf bs).data.toList.map UInt8.toNat := by
    simp only [strOf, List.map_map]
    induction bs with
    | nil => rfl
    | cons b bs ih =>
      simp only [List.map_cons, Function.comp]
      rw [toNat_ofNat_lt (h b (by simp))]
      congr 1
      exact ih fun x hx => h x (by simp [hx])
  conv => lhs; rw [this]
  rw [this]
  have e2 : strOf ((strOf bs).data.toList.map UInt8.toNat) = strOf bs := by rw [← this]
  rw [e2]; exact .str _
theorem foldl_push (bs : List Nat) (s : ByteArray) : (bs.map fun b : Nat => (b : Int)).foldl (fun r n => r.push (UInt8.ofNat n.toNat)) s = ⟨s.data ++ (bs.map UInt8.ofNat).toArray⟩ := by
  induction bs generalizing s with
  | nil => simp
  | cons b bs ih =>
    simp only [List.map_cons, List.foldl_cons]
    rw [ih]
    simp [ByteArray.push]
theorem run_bytesToStr {a : Addr} {n c : Nat} {bs : List Nat} {w : World} (hl : (loadCells a n).run P w = .ok (bs.map (fun b : Nat => Value.int .u8 (b : Int))).toArray w) :
    (Conv.bytesToString (.slice (some a) n c)).run P w = .ok (.string (strOf bs)) w := by
  have hl' : (loadCells a n).run P w = .ok ((bs.map fun b : Nat => (b : Int)).map (Value.int .u8)).toArray w := by rw [hl]; simp [Function.comp_def]
  rw [run_bytesToString w a n c _ hl', foldl_push]
  simp [strOf]

/-- What an operation that gives a value does. -/
def Does (P : Program) (r : Ren) (h : H) (w : World) (s : Sem Value) (v : V) (h' : H) : Prop := ∃ v' w' r', s.run P w = .ok v' w' ∧ Step P r h w r' h' w' ∧ VR r' v v'
theorem Does.same (hs : Sim P r h w) {s : Sem Value} {v : V} (e : ∃ v', s.run P w = .ok v' w ∧ VR r v v') : Does P r h w s v h :=
  let ⟨v', a, b⟩ := e; ⟨v', w, r, a, Step.refl hs, b⟩

theorem run_choose_cap (need old : Nat) (elem : TypeId) (w : World) : ∃ c, need ≤ c ∧ (choose (.appendCap need old elem)).run P w = .ok c { w with drawn := w.drawn + 1 } :=
  ⟨_, Nat.le_add_right _ _, by simp [Question.forced, Question.cut]; rfl⟩
theorem strToBytes_does (hs : Sim P r h w) {e : TypeId} {i : TypeInfo} (hi : P.info? e = some i) (hz : i.size = 1) (s : ByteArray) :
    Does P r h w (Conv.stringToBytes e s) (.sl h.nx 0 s.data.toList.length none) (h.newD (.cells (T.lf.puts 0 (u8s (s.data.toList.map UInt8.toNat))) (u8s (s.data.toList.map UInt8.toNat)).length e .tail true)) := by
  obtain ⟨c, hc, hch⟩ := run_choose_cap (P := P) s.size 0 e w
  have hsz : s.size = s.data.toList.length := by rw [Array.length_toList]; rfl
  let cells : List Value := s.data.toList.map fun b => Value.int .u8 b.toNat
  let rest : List Value := List.replicate (c - s.size) (.int .u8 0)
  have hN : cells.length + rest.length = c := by simp [cells, rest]; omega
  have hcl : cells.length = s.data.toList.length := by simp [cells]
  let w' : World := { w with drawn := w.drawn + 1, heap := w.heap.push (.cells (cells ++ rest).toArray e (c, c + 1)) }
  have hrow := Sim.row (P := P) (r := r) (h := h) (w := w) hs (elem := e) (cs := u8s (s.data.toList.map UInt8.toNat)) (cs' := cells) (rest := rest) (opn := true) (frz := .tail) (lo := c) (hi := c + 1) (esz := 1) (u8s_sound r _)
    (fun hh => by cases hh) (fun j hj => by have hj' : j < cells.length + rest.length := hj; show ¬ (c ≤ 0 + j ∧ 0 + j < c + 1); omega) (fun _ => ⟨i, hi, hz⟩) (w' := w') rfl rfl rfl rfl
  rw [hN] at hrow
  refine ⟨.slice (some ⟨w.heap.size, 0, none⟩) s.size c, w', _, ?_, hrow, ?_⟩
  · unfold Conv.stringToBytes
    have harr : (Array.map (fun b => Value.int IntKind.u8 ↑b.toNat) s.data ++ Array.replicate (c - s.size) (Value.int IntKind.u8 0)) = (cells ++ rest).toArray := by
      apply Array.ext'
      simp [cells, rest]
    simp only [Sem.run_bind, hch, Result.andThen_ok, harr]
    have hlen : (cells ++ rest).toArray.size = c := by simp [← hN]
    simp only [Go.newRow, Sem.run_bind, run_newObj, Result.andThen_ok, Sem.run_pure, markStringish, run_shape]
    have hsh : World.shape? { w with drawn := w.drawn + 1, heap := w.heap.push (.cells (cells ++ rest).toArray e) } w.heap.size = some (e, c) := by
      simp only [World.shape?, Array.getElem?_push, if_true]; rw [hlen]
    rw [hsh]
    simp only [run_freeze, Result.andThen_ok]
    congr 1
    simp only [World.freeze, w']
    rw [if_neg (by omega)]
    congr 1
    apply Array.ext_getElem?
    intro j
    rw [Array.getElem?_modify, Array.getElem?_push, Array.getElem?_push]
    by_cases hj : j = w.heap.size
    · subst hj; simp
    · rw [if_neg (fun e => hj e.symm), if_neg hj, if_neg hj]
  · rw [hsz]
    have := VR.slo (r := r.at h.nx ⟨w.heap.size, 0, c, 1⟩) (l := h.nx) (o := 0) (n := s.data.toList.length) (loc := ⟨w.heap.size, 0, c, 1⟩) c (Ren.at_same _ _ _) (by simp)
    exact this
end Go.Am
