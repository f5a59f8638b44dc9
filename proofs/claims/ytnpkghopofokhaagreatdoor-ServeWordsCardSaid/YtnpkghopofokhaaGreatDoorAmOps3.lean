/- A part of the abstract machine, or of a proof over it. -/
import Derived.Test.YtnpkghopofokhaaGreatDoorAmOps2
import Derived.Laws.Concat
import Derived.Laws.BytesString
namespace Go.Am
variable {p : Pg} {P : Program} {r : Ren} {h : H} {w : World}

theorem wrapS_eq (k : IntKind) (n : Int) : wrapS k n = k.wrap n := by
  cases n with
  | negSucc m => rfl
  | ofNat m =>
    simp only [wrapS, blt_iff]
    by_cases hm : m < lim k
    · rw [decide_eq_true hm]
      cases k <;> simp [IntKind.wrap, IntKind.bits, IntKind.signed, lim] at * <;> omega
    · rw [decide_eq_false hm]
theorem wrapI_eq {β : Type} (k : IntKind) (n : Int) (f : V → β) : wrapI k n f = f (.int k (k.wrap n)) := by simp [wrapI, forceInt_eq, wrapS_eq]
theorem wrap_mod (k : IntKind) (n : Int) : k.wrap (n % (2 ^ k.bits : Int)) = k.wrap n := by simp [IntKind.wrap]
theorem wrap_natmod (k : IntKind) (n : Nat) : k.wrap ((n % 2 ^ k.bits : Nat) : Int) = k.wrap n := by
  rw [← wrap_mod k (n : Int)]; congr 1
theorem ofInt_nat_toNat (k : IntKind) (x : Nat) : (BitVec.ofInt k.bits (Int.ofNat x)).toNat = x % 2 ^ k.bits := by
  rw [show (Int.ofNat x) = (x : Int) from rfl, BitVec.ofInt_natCast, BitVec.toNat_ofNat]

theorem intBin_sound {op : BinOp} {k : IntKind} {a b : Int} {v : V} (e : intBin op k a b = some v) (hsh : op ≠ .shl ∧ op ≠ .shr) :
    ∃ v', (match op with
      | .add | .sub | .mul => Op.intArith op k a b
      | .quo | .rem => Op.intDiv op k a b
      | .and | .or | .xor | .andNot => Op.intBits op k a b
      | _ => Op.intCmp op a b : Sem Value).run P w = .ok v' w ∧ VR r v v' := by
  cases op <;> simp only [intBin, wrapI_eq] at e
  case add => cases e; exact ⟨_, rfl, .int _ _⟩
  case sub => cases e; exact ⟨_, rfl, .int _ _⟩
  case mul => cases e; exact ⟨_, rfl, .int _ _⟩
  case quo =>
    split at e
    · cases e
    · rename_i hne
      cases e
      have hb : b ≠ 0 := fun hh => by subst hh; exact hne rfl
      exact ⟨.int k (k.wrap (a.tdiv b)), by simp [Op.intDiv, hb], .int _ _⟩
  case rem =>
    split at e
    · cases e
    · rename_i hne
      simp only [forceInt_eq] at e
      cases e
      have hb : b ≠ 0 := fun hh => by subst hh; exact hne rfl
      exact ⟨.int k (a.tmod b), by simp [Op.intDiv, hb], .int _ _⟩
  case and =>
    refine ⟨.int k (k.wrap ((BitVec.ofInt k.bits a &&& BitVec.ofInt k.bits b).toNat : Int)), rfl, ?_⟩
    split at e <;> cases e
    · rename_i x y
      rw [BitVec.toNat_and, ofInt_nat_toNat, ofInt_nat_toNat, ← Nat.and_mod_two_pow, wrap_natmod]; exact .int _ _
    · exact .int _ _
  case or =>
    refine ⟨.int k (k.wrap ((BitVec.ofInt k.bits a ||| BitVec.ofInt k.bits b).toNat : Int)), rfl, ?_⟩
    split at e <;> cases e
    · rename_i x y
      rw [BitVec.toNat_or, ofInt_nat_toNat, ofInt_nat_toNat, ← Nat.or_mod_two_pow, wrap_natmod]; exact .int _ _
    · exact .int _ _
  case xor =>
    refine ⟨.int k (k.wrap ((BitVec.ofInt k.bits a ^^^ BitVec.ofInt k.bits b).toNat : Int)), rfl, ?_⟩
    split at e <;> cases e
    · rename_i x y
      rw [BitVec.toNat_xor, ofInt_nat_toNat, ofInt_nat_toNat, ← Nat.xor_mod_two_pow, wrap_natmod]; exact .int _ _
    · exact .int _ _
  case andNot =>
    cases e
    exact ⟨_, rfl, .int _ _⟩
  case shl => exact absurd rfl hsh.1
  case shr => exact absurd rfl hsh.2
  case eql => cases e; exact ⟨.bool (a == b), rfl, by rw [intEq_iff]; exact .bool _⟩
  case neq =>
    cases e
    refine ⟨.bool (a != b), rfl, ?_⟩
    rw [intEq_iff, show (!decide (a = b)) = (a != b) from rfl]; exact .bool _
  case lss => cases e; exact ⟨.bool (decide (a < b)), rfl, by rw [intLt_iff]; exact .bool _⟩
  case leq =>
    cases e
    refine ⟨.bool (decide (a ≤ b)), rfl, ?_⟩
    rw [intLt_iff, show (!decide (b < a)) = decide (a ≤ b) by rw [Bool.eq_iff_iff]; simp]; exact .bool _
  case gtr => cases e; exact ⟨.bool (decide (a > b)), rfl, by rw [intLt_iff]; exact .bool _⟩
  case geq =>
    cases e
    refine ⟨.bool (decide (a ≥ b)), rfl, ?_⟩
    rw [intLt_iff, show (!decide (a < b)) = decide (a ≥ b) by rw [Bool.eq_iff_iff]; simp]; exact .bool _
theorem shiftV_sound {op : BinOp} {k yk : IntKind} {a b : Int} {v : V} (e : shiftV op k a b = some v) : ∃ v', (Op.shift op k a yk b).run P w = .ok v' w ∧ VR r v v' := by
  cases b with
  | negSucc y => cases e
  | ofNat y =>
    simp only [shiftV] at e
    have hy : ¬ (Int.ofNat y < 0) := by simp
    cases op <;> simp only [wrapI_eq, forceInt_eq] at e <;> try (cases e; done)
    · cases e
      refine ⟨_, by simp only [Op.shift, hy, if_false]; rfl, ?_⟩
      exact .int _ _
    · cases e
      refine ⟨_, by simp only [Op.shift, hy, if_false]; rfl, ?_⟩
      exact .int _ _
theorem bytesLt_sound : ∀ (a b : List UInt8), bytesLt (a.map UInt8.toNat) (b.map UInt8.toNat) = Op.bytesLess a b
  | _, [] => by cases ‹List UInt8› <;> rfl
  | [], _ :: _ => rfl
  | x :: a, y :: b => by
    simp only [List.map_cons, bytesLt, Op.bytesLess, blt_iff, beq_iff]
    by_cases h1 : x < y
    · have : x.toNat < y.toNat := UInt8.lt_iff_toNat_lt.1 h1
      simp [h1, this]
    · have h1' : ¬ x.toNat < y.toNat := fun hh => h1 (UInt8.lt_iff_toNat_lt.2 hh)
      simp only [h1, h1', decide_false, Bool.false_or]
      by_cases h2 : x = y
      · subst h2; simp [bytesLt_sound a b]
      · have h2' : ¬ x.toNat = y.toNat := fun hh => h2 (UInt8.toNat_inj.1 hh)
        simp [h2, h2']
theorem data_app (a b : ByteArray) : (a ++ b).data.toList = a.data.toList ++ b.data.toList := by
  obtain ⟨a⟩ := a
  obtain ⟨b⟩ := b
  rw [ByteArray.mk_append_mk]
theorem strBin_sound {op : BinOp} {a b : ByteArray} {v : V} (e : strBin op (a.data.toList.map UInt8.toNat) (b.data.toList.map UInt8.toNat) = some v) :
    ∃ v', (Op.stringOp op a b).run P w = .ok v' w ∧ VR r v v' := by
  have heq : (a.toList == b.toList) = bytesEq (a.data.toList.map UInt8.toNat) (b.data.toList.map UInt8.toNat) := by
    rw [bytesEq_iff, ← bytes_eq_iff, beq_toListBytes]
  have hlt : Op.bytesLess a.toList b.toList = bytesLt (a.data.toList.map UInt8.toNat) (b.data.toList.map UInt8.toNat) := by
    rw [ByteArray.toList_eq, ByteArray.toList_eq, bytesLt_sound]
  cases op <;> simp only [strBin] at e <;> try (cases e; done)
  · simp only [ble_iff, len_eq, List.length_map, appB_eq, forceL_eq] at e
    by_cases hle : a.data.toList.length + b.data.toList.length ≤ 9223372036854775807
    · rw [decide_eq_true hle] at e
      simp only [Option.some.injEq] at e
      subst e
      refine ⟨.string (a ++ b), ?_, ?_⟩
      · have hsz : ¬ (((a.size + b.size : Nat) : Int) > IntKind.i64.max) := by
          have h1 : a.size = a.data.toList.length := by rw [Array.length_toList]; rfl
          have h2 : b.size = b.data.toList.length := by rw [Array.length_toList]; rfl
          have h3 : IntKind.i64.max = 9223372036854775807 := by rfl
          rw [h1, h2, h3]; omega
        simp only [Op.stringOp, hsz, if_false]; rfl
      · rw [← List.map_append, ← data_app]; exact .str _
    · rw [decide_eq_false hle] at e; cases e
  · cases e; exact ⟨_, rfl, by rw [heq]; exact .bool _⟩
  · cases e; exact ⟨_, rfl, by rw [heq]; exact .bool _⟩
  · cases e; exact ⟨_, rfl, by rw [hlt]; exact .bool _⟩
  · cases e; exact ⟨_, rfl, by rw [heq, hlt]; exact .bool _⟩
  · cases e; exact ⟨_, rfl, by rw [heq, hlt]; exact .bool _⟩
  · cases e; exact ⟨_, rfl, by rw [hlt]; exact .bool _⟩
theorem eqV_noany {d t : Nat} {x y : V} {b : Bool} (e : eqV p h d t x y = some b) : (x ≠ .any ∧ x ≠ .top) ∧ (y ≠ .any ∧ y ≠ .top) := by
  cases d with
  | zero => simp [eqV] at e
  | succ d =>
    simp only [eqV] at e
    cases hu : und p t with
    | none => rw [hu] at e; cases e
    | some u =>
      rw [hu] at e
      simp only [] at e
      split at e <;> first | (cases e; done) | simp
theorem binOp_eql (t : TypeId) (x y : Value) (hi : ∀ k a k' b, ¬ (x = .int k a ∧ y = .int k' b)) (hf : ∀ k a k' b, ¬ (x = .float k a ∧ y = .float k' b))
    (hc : ∀ k a b k' c d, ¬ (x = .complex k a b ∧ y = .complex k' c d)) (hs : ∀ a b, ¬ (x = .string a ∧ y = .string b)) : binOp .eql t x y = (do pure (.bool (← Op.equal t x y))) := by
  unfold binOp
  split <;> first | (exact absurd ⟨rfl, rfl⟩ (hi _ _ _ _)) | (exact absurd ⟨rfl, rfl⟩ (hf _ _ _ _)) | (exact absurd ⟨rfl, rfl⟩ (hc _ _ _ _ _ _)) | (exact absurd ⟨rfl, rfl⟩ (hs _ _)) | simp_all
theorem binOp_neq (t : TypeId) (x y : Value) (hi : ∀ k a k' b, ¬ (x = .int k a ∧ y = .int k' b)) (hf : ∀ k a k' b, ¬ (x = .float k a ∧ y = .float k' b))
    (hc : ∀ k a b k' c d, ¬ (x = .complex k a b ∧ y = .complex k' c d)) (hs : ∀ a b, ¬ (x = .string a ∧ y = .string b)) : binOp .neq t x y = (do pure (.bool (!(← Op.equal t x y)))) := by
  unfold binOp
  split <;> first | (exact absurd ⟨rfl, rfl⟩ (hi _ _ _ _)) | (exact absurd ⟨rfl, rfl⟩ (hf _ _ _ _)) | (exact absurd ⟨rfl, rfl⟩ (hc _ _ _ _ _ _)) | (exact absurd ⟨rfl, rfl⟩ (hs _ _)) | simp_all
theorem VR.noany_int {v : V} {k : IntKind} {n : Int} (hv : VR r v (.int k n)) (ha : v ≠ .any) (ht : v ≠ .top) : v = .int k n := by cases hv <;> simp_all
theorem VR.noany_str {v : V} {s : ByteArray} (hv : VR r v (.string s)) (ha : v ≠ .any) (ht : v ≠ .top) : ∃ l, v = .str l := by cases hv <;> simp_all
theorem VR.noany_float {v : V} {k : FloatKind} {n : Nat} (hv : VR r v (.float k n)) (ha : v ≠ .any) (ht : v ≠ .top) : False := by cases hv <;> simp_all
theorem VR.noany_complex {v : V} {k : FloatKind} {n m : Nat} (hv : VR r v (.complex k n m)) (ha : v ≠ .any) (ht : v ≠ .top) : False := by cases hv <;> simp_all
theorem binA_sound (F : Fits p P) (hs : Sim P r h w) {op : BinOp} {t : Nat} {x y v : V} {x' y' : Value} (hx : VR r x x') (hy : VR r y y') (e : binA p h op t x y = some v) :
    ∃ v', (binOp op t x' y').run P w = .ok v' w ∧ VR r v v' := by
  unfold binA at e
  split at e
  · rename_i k a k' b; cases hx; cases hy; exact shiftV_sound (yk := k') e
  · rename_i k a k' b; cases hx; cases hy; exact shiftV_sound (yk := k') e
  · rename_i op' k a k' b h1 h2
    cases hx; cases hy
    rw [kindEq_iff] at e
    by_cases hk : k = k'
    · subst hk
      simp only [decide_true] at e
      have hsh : op ≠ .shl ∧ op ≠ .shr := ⟨h1, h2⟩
      obtain ⟨v', k1, k2⟩ := intBin_sound (P := P) (w := w) (r := r) e hsh
      refine ⟨v', ?_, k2⟩
      rw [← k1]
      obtain ⟨hs1, hs2⟩ := hsh
      cases op <;> first | (exact absurd rfl hs1) | (exact absurd rfl hs2) | simp [binOp]
    · simp [hk] at e
  · cases hx; cases hy
    obtain ⟨v', k1, k2⟩ := strBin_sound (P := P) (w := w) (r := r) e
    refine ⟨v', ?_, k2⟩
    rw [← k1]; cases op <;> rfl
  · rename_i h1 h2 
    cases hq : eqV p h 40 t x y with
    | none => rw [hq] at e; cases e
    | some b =>
      rw [hq] at e; simp only [Option.some.injEq] at e; subst e
      obtain ⟨⟨a1, a2⟩, b1, b2⟩ := eqV_noany hq
      have := eqV_sound F hs 40 t x y b hq x' y' hx hy 10000 (by omega)
      refine ⟨.bool b, ?_, .bool b⟩
      rw [binOp_eql]
      · simp [Op.equal, Op.maxDepth, this]
      · rintro k a k' c ⟨rfl, rfl⟩
        have u1 := hx.noany_int a1 a2; have u2 := hy.noany_int b1 b2; subst u1; subst u2; exact h1 _ _ _ _ rfl rfl
      · rintro k a k' c ⟨rfl, rfl⟩; exact hx.noany_float a1 a2
      · rintro k a c k' d f ⟨rfl, rfl⟩; exact hx.noany_complex a1 a2
      · rintro a c ⟨rfl, rfl⟩
        obtain ⟨l, rfl⟩ := hx.noany_str a1 a2; obtain ⟨m, rfl⟩ := hy.noany_str b1 b2; exact h2 _ _ rfl rfl
  · rename_i h1 h2
    cases hq : eqV p h 40 t x y with
    | none => rw [hq] at e; cases e
    | some b =>
      rw [hq] at e; simp only [Option.some.injEq] at e; subst e
      obtain ⟨⟨a1, a2⟩, b1, b2⟩ := eqV_noany hq
      have := eqV_sound F hs 40 t x y b hq x' y' hx hy 10000 (by omega)
      refine ⟨.bool (!b), ?_, .bool _⟩
      rw [binOp_neq]
      · simp [Op.equal, Op.maxDepth, this]
      · rintro k a k' c ⟨rfl, rfl⟩
        have u1 := hx.noany_int a1 a2; have u2 := hy.noany_int b1 b2; subst u1; subst u2; exact h1 _ _ _ _ rfl rfl
      · rintro k a k' c ⟨rfl, rfl⟩; exact hx.noany_float a1 a2
      · rintro k a c k' d f ⟨rfl, rfl⟩; exact hx.noany_complex a1 a2
      · rintro a c ⟨rfl, rfl⟩
        obtain ⟨l, rfl⟩ := hx.noany_str a1 a2; obtain ⟨m, rfl⟩ := hy.noany_str b1 b2; exact h2 _ _ rfl rfl
  · cases e
theorem guard_fields (F : Fits p P) {d : Nat} : ∀ (fs : List Field), flats p fs = true → (fs.any fun f => f.name != "_" && P.eqGuardType (d + 1) f.type) = false
  | [], _ => rfl
  | f :: fs, e => by
    simp only [flats] at e
    cases hf : flatO (und p f.type) with
    | false => rw [hf] at e; cases e
    | true =>
      rw [hf] at e
      simp only [List.any_cons, Bool.or_eq_false_iff]
      refine ⟨?_, guard_fields F fs e⟩
      cases hu : und p f.type with
      | none => rw [hu] at hf; cases hf
      | some u =>
        rw [hu] at hf
        simp only [Program.eqGuardType, und_sound F hu]
        cases u <;> simp_all [flatO]
theorem run_eqGuard_lit (op : BinOp) (t : TypeId) (x y : Operand) (w : World) (h : litO x = true ∨ litO y = true) : (eqGuard op t x y .nilIface .nilIface).run P w = .ok () w := by
  cases op <;> cases x <;> cases y <;> simp [litO] at h <;> simp [eqGuard]
theorem run_eqGuard_nil (op : BinOp) (t : TypeId) (x y : Operand) (w : World) (h : (Op.eqGuardIn Op.maxDepth t .nilIface .nilIface).run P w = .ok false w) :
    (eqGuard op t x y .nilIface .nilIface).run P w = .ok () w := by
  cases op <;> cases x <;> cases y <;> simp [eqGuard, h]
theorem run_eqGuard_other (op : BinOp) (t : TypeId) (x y : Operand) (a b : Value) (w : World) (h1 : ¬ (a = .nilIface ∧ b = .nilIface)) (h2 : ∀ xs ys, ¬ (a = .agg xs ∧ b = .agg ys)) :
    (eqGuard op t x y a b).run P w = .ok () w := by
  have key : (op = .eql ∨ op = .neq) → (eqGuard op t x y a b).run P w = .ok () w := by
    intro hop
    unfold eqGuard
    cases a <;> cases b <;> first
      | (rcases hop with rfl | rfl <;> rfl)
      | exact absurd ⟨rfl, rfl⟩ h1
      | exact absurd ⟨rfl, rfl⟩ (h2 _ _)
  cases op <;> first | exact key (.inl rfl) | exact key (.inr rfl) | rfl
theorem guardVV_sound (F : Fits p P) (op : BinOp) {t : Nat} {x y : Operand} {a b : V} {a' b' : Value} (ha : VR r a a') (hb : VR r b b') (e : guardVV p t x y a b = true) :
    (eqGuard op t x y a' b').run P w = .ok () w := by
  obtain ⟨d, hd⟩ : ∃ d, P.depth = d + 2 := ⟨P.depth - 2, by unfold Program.depth; omega⟩
  by_cases c1 : a' = .nilIface ∧ b' = .nilIface
  · obtain ⟨rfl, rfl⟩ := c1
    have h1 : a = .nili ∨ a = .any ∨ a = .top := by cases ha <;> simp_all
    have h2 : b = .nili ∨ b = .any ∨ b = .top := by cases hb <;> simp_all
    rcases h1 with rfl | rfl | rfl <;> rcases h2 with rfl | rfl | rfl <;> simp only [guardVV, Bool.false_eq_true] at e
    cases hc : (litO x || litO y) with
    | true => exact run_eqGuard_lit op t x y w (by simpa using hc)
    | false =>
      rw [hc] at e
      simp only [] at e
      cases hu : und p t with
      | none => rw [hu] at e; simp at e
      | some u =>
        rw [hu] at e
        cases u <;> simp at e
        refine run_eqGuard_nil op t x y w ?_
        show (Op.eqGuardIn (9999 + 1) t .nilIface .nilIface).run P w = _
        unfold Op.eqGuardIn
        rw [Sem.run_bind, run_und F hu]
        subst e
        rfl
  · by_cases c2 : ∃ xs ys, a' = .agg xs ∧ b' = .agg ys
    · obtain ⟨xs', ys', rfl, rfl⟩ := c2
      have h1 : (∃ xs, a = .agg xs) ∨ a = .any ∨ a = .top := by cases ha <;> simp_all
      have h2 : (∃ xs, b = .agg xs) ∨ b = .any ∨ b = .top := by cases hb <;> simp_all
      rcases h1 with ⟨xs, rfl⟩ | rfl | rfl <;> rcases h2 with ⟨ys, rfl⟩ | rfl | rfl <;> simp only [guardVV, Bool.false_eq_true] at e
      cases hu : und p t with
      | none => rw [hu] at e; cases e
      | some u =>
        rw [hu] at e
        cases u <;> simp only [Bool.false_eq_true] at e
        rename_i fs
        refine run_eqGuard_agg w op t x y _ _ ?_
        rw [hd]
        simp only [Program.eqGuardType, und_sound F hu]
        rw [← Array.any_toList]
        exact guard_fields F fs.toList e
    · exact run_eqGuard_other op t x y a' b' w c1 fun xs ys hh => c2 ⟨xs, ys, hh⟩
theorem guardOk_sound (F : Fits p P) {op : BinOp} {t : Nat} {x y : Operand} {a b : V} {a' b' : Value} (ha : VR r a a') (hb : VR r b b') (e : guardOk p op t x y a b = true) :
    (eqGuard op t x y a' b').run P w = .ok () w := by
  cases op <;> first | exact guardVV_sound F _ ha hb e | rfl
theorem unA_sound {op : UnOp} {x v : V} {x' : Value} (hx : VR r x x') (e : unA op x = some v) : ∃ v', (Op.unary op x').run P w = .ok v' w ∧ VR r v v' := by
  cases op <;> cases hx <;> simp only [unA, wrapI_eq] at e <;> try (cases e; done)
  · cases e; exact ⟨_, rfl, .int _ _⟩
  · rename_i k n
    cases hb : intBin .xor k (if k.signed then -1 else k.max) n with
    | none => rw [hb] at e; cases e
    | some u =>
      rw [hb] at e; simp only [Option.some.injEq] at e; subst e
      exact intBin_sound (op := .xor) hb (by simp)
  · cases e
    rename_i b
    refine ⟨.bool (!b), rfl, ?_⟩
    cases b <;> exact .bool _
end Go.Am
