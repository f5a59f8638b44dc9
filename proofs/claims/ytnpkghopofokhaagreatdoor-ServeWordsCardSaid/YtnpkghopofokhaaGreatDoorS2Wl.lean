/- The plain law of a line's words. -/
import Derived.Handy
namespace Go.Proofs.Zw
/-- A word's bytes, in quotes or not, and what stands behind it. -/
def cutQ : List UInt8 → Bool → List UInt8 × List UInt8
  | [], _ => ([], [])
  | c :: r, q =>
    if c = 34 then (c :: (cutQ r (!q)).1, (cutQ r (!q)).2)
    else if c = 92 ∧ q = true then
      match r with
      | [] => ([c], [])
      | d :: r' => (c :: d :: (cutQ r' q).1, (cutQ r' q).2)
    else if c = 32 ∧ q = false then ([], c :: r)
    else (c :: (cutQ r q).1, (cutQ r q).2)
termination_by l => l.length
theorem cutQ_nil (q : Bool) : cutQ [] q = ([], []) := by rw [cutQ]
theorem cutQ_quote (r : List UInt8) (q : Bool) : cutQ (34 :: r) q = (34 :: (cutQ r (!q)).1, (cutQ r (!q)).2) := by rw [cutQ.eq_def]; simp
theorem cutQ_slash (c : UInt8) (h : c = 92) (d : UInt8) (r : List UInt8) : cutQ (c :: d :: r) true = (c :: d :: (cutQ r true).1, (cutQ r true).2) := by subst h; rw [cutQ.eq_def]; simp
theorem cutQ_last (c : UInt8) (h : c = 92) : cutQ [c] true = ([c], []) := by subst h; rw [cutQ.eq_def]; simp
theorem cutQ_blank (r : List UInt8) : cutQ (32 :: r) false = ([], 32 :: r) := by rw [cutQ.eq_def]; simp
theorem cutQ_else (c : UInt8) (r : List UInt8) (q : Bool) (h1 : c ≠ 34) (h2 : ¬ (c = 92 ∧ q = true)) (h3 : ¬ (c = 32 ∧ q = false)) : cutQ (c :: r) q = (c :: (cutQ r q).1, (cutQ r q).2) := by
  rw [cutQ.eq_def]; simp only []; rw [if_neg h1, if_neg h2, if_neg h3]
/-- The four ways of a byte. -/
theorem cut_cases {p : List UInt8 → Bool → Prop} (h0 : ∀ q, p [] q) (h1 : ∀ r q, p r (!q) → p (34 :: r) q) (h2 : ∀ d r, p r true → p (92 :: d :: r) true) (h2' : p [92] true) (h3 : ∀ r, p (32 :: r) false)
    (h4 : ∀ c r q, c ≠ 34 → ¬ (c = 92 ∧ q = true) → ¬ (c = 32 ∧ q = false) → p r q → p (c :: r) q) : ∀ n l q, l.length ≤ n → p l q := by
  intro n
  induction n with
  | zero => intro l q h; cases l with
    | nil => exact h0 q
    | cons c r => simp at h
  | succ n ih =>
    intro l q h
    cases l with
    | nil => exact h0 q
    | cons c r =>
      have hr : r.length ≤ n := by simpa using h
      by_cases e1 : c = 34
      · subst e1; exact h1 r q (ih _ _ hr)
      by_cases e2 : c = 92 ∧ q = true
      · obtain ⟨rfl, rfl⟩ := e2
        cases r with
        | nil => exact h2'
        | cons d r' => exact h2 d r' (ih _ _ (by simp at hr; omega))
      by_cases e3 : c = 32 ∧ q = false
      · obtain ⟨rfl, rfl⟩ := e3; exact h3 r
      · exact h4 c r q e1 e2 e3 (ih _ _ hr)
theorem cutQ_join (l : List UInt8) (q : Bool) : (cutQ l q).1 ++ (cutQ l q).2 = l := by
  refine cut_cases (p := fun l q => (cutQ l q).1 ++ (cutQ l q).2 = l) ?_ ?_ ?_ ?_ ?_ ?_ l.length l q (Nat.le_refl _)
  · intro q; rw [cutQ_nil]; rfl
  · intro r q h; rw [cutQ_quote]; simp [h]
  · intro d r h; rw [cutQ_slash _ rfl]; simp [h]
  · rw [cutQ_last _ rfl]; rfl
  · intro r; rw [cutQ_blank]; rfl
  · intro c r q h1 h2 h3 h; rw [cutQ_else c r q h1 h2 h3]; simp [h]
theorem cutQ_self (l : List UInt8) (q : Bool) : cutQ (cutQ l q).1 q = ((cutQ l q).1, []) := by
  refine cut_cases (p := fun l q => cutQ (cutQ l q).1 q = ((cutQ l q).1, [])) ?_ ?_ ?_ ?_ ?_ ?_ l.length l q (Nat.le_refl _)
  · intro q; rw [cutQ_nil]; exact cutQ_nil q
  · intro r q h; rw [cutQ_quote]; simp only []; rw [cutQ_quote, h]
  · intro d r h; rw [cutQ_slash _ rfl]; simp only []; rw [cutQ_slash _ rfl, h]
  · rw [cutQ_last _ rfl]; exact cutQ_last _ rfl
  · intro r; rw [cutQ_blank]; exact cutQ_nil _
  · intro c r q h1 h2 h3 h; rw [cutQ_else c r q h1 h2 h3]; simp only []; rw [cutQ_else c _ q h1 h2 h3, h]
theorem cutQ_more (l : List UInt8) (q : Bool) : (cutQ l q).2 ≠ [] → (∃ r, (cutQ l q).2 = 32 :: r) ∧ ∀ X, cutQ ((cutQ l q).1 ++ 32 :: X) q = ((cutQ l q).1, 32 :: X) := by
  refine cut_cases (p := fun l q => (cutQ l q).2 ≠ [] → (∃ r, (cutQ l q).2 = 32 :: r) ∧ ∀ X, cutQ ((cutQ l q).1 ++ 32 :: X) q = ((cutQ l q).1, 32 :: X)) ?_ ?_ ?_ ?_ ?_ ?_ l.length l q (Nat.le_refl _)
  · intro q; rw [cutQ_nil]; intro h; exact absurd rfl h
  · intro r q h; rw [cutQ_quote]; intro h0; obtain ⟨h1, h2⟩ := h h0
    refine ⟨h1, fun X => ?_⟩
    show cutQ (34 :: ((cutQ r (!q)).1 ++ 32 :: X)) q = _
    rw [cutQ_quote, h2]
  · intro d r h; rw [cutQ_slash _ rfl]; intro h0; obtain ⟨h1, h2⟩ := h h0
    refine ⟨h1, fun X => ?_⟩
    show cutQ (92 :: d :: ((cutQ r true).1 ++ 32 :: X)) true = _
    rw [cutQ_slash _ rfl, h2]
  · rw [cutQ_last _ rfl]; intro h; exact absurd rfl h
  · intro r; rw [cutQ_blank]; intro _; exact ⟨⟨_, rfl⟩, fun X => cutQ_blank X⟩
  · intro c r q h1 h2 h3 h; rw [cutQ_else c r q h1 h2 h3]; intro h0; obtain ⟨g1, g2⟩ := h h0
    refine ⟨g1, fun X => ?_⟩
    show cutQ (c :: ((cutQ r q).1 ++ 32 :: X)) q = _
    rw [cutQ_else c _ q h1 h2 h3, g2]
/-- Behind the blanks. -/
def skip (l : List UInt8) : List UInt8 := l.dropWhile (· == 32)
theorem skip_nil : skip [] = [] := rfl
theorem skip_blank (l : List UInt8) : skip (32 :: l) = skip l := rfl
theorem skip_cons {c : UInt8} (h : c ≠ 32) (l : List UInt8) : skip (c :: l) = c :: l := by
  unfold skip; rw [List.dropWhile_cons_of_neg]; simpa using h
theorem skip_head {l : List UInt8} {c : UInt8} {r : List UInt8} (h : skip l = c :: r) : c ≠ 32 := by
  induction l with
  | nil => cases h
  | cons d l ih =>
    by_cases e : d = 32
    · subst e; exact ih h
    · rw [skip_cons e] at h; cases h; exact e
theorem skip_len (l : List UInt8) : (skip l).length ≤ l.length := by
  induction l with
  | nil => exact Nat.le_refl _
  | cons d l ih =>
    by_cases e : d = 32
    · subst e; rw [skip_blank]; simp; omega
    · rw [skip_cons e]; exact Nat.le_refl _
theorem skip_skip (l : List UInt8) : skip (skip l) = skip l := by
  cases h : skip l with
  | nil => rfl
  | cons c r => exact skip_cons (skip_head h) r
/-- A word that begins begins with its byte. -/
theorem cut_first {c : UInt8} (h : c ≠ 32) (r : List UInt8) (q : Bool) : ∃ w, (cutQ (c :: r) q).1 = c :: w := by
  by_cases e1 : c = 34
  · subst e1; rw [cutQ_quote]; exact ⟨_, rfl⟩
  by_cases e2 : c = 92 ∧ q = true
  · obtain ⟨rfl, rfl⟩ := e2
    cases r with
    | nil => rw [cutQ_last _ rfl]; exact ⟨_, rfl⟩
    | cons d r' => rw [cutQ_slash _ rfl]; exact ⟨_, rfl⟩
  · rw [cutQ_else c r q e1 e2 (fun hh => h hh.1)]; exact ⟨_, rfl⟩
theorem cut_less (l : List UInt8) (h : skip l ≠ []) : (cutQ (skip l) false).2.length < l.length := by
  cases hs : skip l with
  | nil => exact absurd hs h
  | cons c r =>
    obtain ⟨w, hw⟩ := cut_first (skip_head hs) r false
    have hj := congrArg List.length (cutQ_join (c :: r) false)
    rw [hw] at hj
    have hl := skip_len l
    rw [hs] at hl
    simp at hj hl ⊢
    omega
/-- A line's words. -/
def wordsL (l : List UInt8) : List (List UInt8) := if h : skip l = [] then [] else (cutQ (skip l) false).1 :: wordsL (cutQ (skip l) false).2
termination_by l.length
decreasing_by exact cut_less l h
theorem words_none {l : List UInt8} (h : skip l = []) : wordsL l = [] := by rw [wordsL, dif_pos h]
theorem words_some {l : List UInt8} (h : skip l ≠ []) : wordsL l = (cutQ (skip l) false).1 :: wordsL (cutQ (skip l) false).2 := by rw [wordsL, dif_neg h]
theorem words_skip (l : List UInt8) : wordsL (skip l) = wordsL l := by
  by_cases h : skip l = []
  · rw [words_none h, h, words_none rfl]
  · rw [words_some h, words_some (by rw [skip_skip]; exact h), skip_skip]
theorem words_blank (l : List UInt8) : wordsL (32 :: l) = wordsL l := by rw [← words_skip, skip_blank, words_skip]
theorem cut_ne {l : List UInt8} (h : skip l ≠ []) : (cutQ (skip l) false).1 ≠ [] := by
  cases hs : skip l with
  | nil => exact absurd hs h
  | cons c r => obtain ⟨w, hw⟩ := cut_first (skip_head hs) r false; rw [hw]; simp
theorem words_ne : ∀ (n : Nat) (l : List UInt8), l.length ≤ n → ∀ w ∈ wordsL l, w ≠ []
  | n, l, hn, w, hw => by
    by_cases h : skip l = []
    · rw [words_none h] at hw; cases hw
    · rw [words_some h] at hw
      rcases List.mem_cons.1 hw with rfl | hw
      · exact cut_ne h
      · have := cut_less l h
        match n with
        | 0 => omega
        | n + 1 => exact words_ne n _ (by omega) w hw
/-- Words with blanks between. -/
def joinW : List (List UInt8) → List UInt8
  | [] => []
  | w :: t => w ++ (if t = [] then [] else 32 :: 32 :: joinW t)
theorem join_snoc (t : List (List UInt8)) (w : List UInt8) : joinW (t ++ [w]) = (if t = [] then [] else joinW t ++ [32, 32]) ++ w := by
  induction t with
  | nil => simp [joinW]
  | cons x t ih =>
    rw [List.cons_append, joinW, if_neg (show ¬ (t ++ [w] = []) by simp), ih, if_neg (show ¬ (x :: t = []) by simp), joinW]
    by_cases h : t = []
    · subst h; simp
    · rw [if_neg h, if_neg h]; simp
theorem words_join : ∀ (n : Nat) (l : List UInt8), l.length ≤ n → wordsL (joinW (wordsL l)) = wordsL l
  | n, l, hn => by
    by_cases h : skip l = []
    · rw [words_none h]; exact words_none rfl
    · have hl := cut_less l h
      rw [words_some h]
      cases hs : skip l with
      | nil => exact absurd hs h
      | cons c r =>
        rw [hs] at hl
        obtain ⟨w, hw⟩ := cut_first (skip_head hs) r false
        have hih : wordsL (joinW (wordsL (cutQ (c :: r) false).2)) = wordsL (cutQ (c :: r) false).2 := by
          match n with
          | 0 => omega
          | n + 1 => exact words_join n _ (by omega)
        by_cases hr : wordsL (cutQ (c :: r) false).2 = []
        · rw [hr, joinW, if_pos rfl, List.append_nil]
          have hsk : skip (cutQ (c :: r) false).1 = (cutQ (c :: r) false).1 := by rw [hw]; exact skip_cons (skip_head hs) w
          rw [words_some (by rw [hsk, hw]; simp), hsk, cutQ_self, words_none rfl]
        · have hr2 : (cutQ (c :: r) false).2 ≠ [] := fun hh => hr (by rw [hh]; exact words_none rfl)
          obtain ⟨-, h2⟩ := cutQ_more (c :: r) false hr2
          rw [joinW, if_neg hr]
          have hsk : ∀ X, skip ((cutQ (c :: r) false).1 ++ X) = (cutQ (c :: r) false).1 ++ X := fun X => by rw [hw]; exact skip_cons (skip_head hs) _
          rw [words_some (by rw [hsk, hw]; simp), hsk, h2, words_blank, words_blank, hih]
end Go.Proofs.Zw
