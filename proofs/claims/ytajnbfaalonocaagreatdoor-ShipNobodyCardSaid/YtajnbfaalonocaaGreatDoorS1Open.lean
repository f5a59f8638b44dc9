/- An act that came in, opened. -/
import Derived.Test.YtajnbfaalonocaaGreatDoorS1Far
import Derived.Deep.Strs
import Derived.Lib.SmallJoins
namespace Go.Proofs.Zt
open Go Go.RowKit Go.Deep Go.ChangeShapes Go.WideShapes Go.ChangeAt
theorem cells74 : Tryz.prog.cellsOf 74 = 3 := by kernel_rfl
theorem cells78 : Tryz.prog.cellsOf 78 = 5 := by kernel_rfl
theorem cells71 : Tryz.prog.cellsOf 71 = 2 := by kernel_rfl
theorem cells69 : Tryz.prog.cellsOf 69 = 1 := by kernel_rfl
theorem cells72 : Tryz.prog.cellsOf 72 = 1 := by kernel_rfl
theorem cells9 : Tryz.prog.cellsOf 9 = 1 := by kernel_rfl
theorem cells3 : Tryz.prog.cellsOf 3 = 1 := by kernel_rfl
theorem cells5 : Tryz.prog.cellsOf 5 = 1 := by kernel_rfl
theorem cells22 : Tryz.prog.cellsOf 22 = 1 := by kernel_rfl
theorem cells24 : Tryz.prog.cellsOf 24 = 2 := by kernel_rfl
theorem cells25 : Tryz.prog.cellsOf 25 = 1 := by kernel_rfl
theorem cells27 : Tryz.prog.cellsOf 27 = 6 := by kernel_rfl
theorem at_cell {w : World} {a : Addr} {v : Value} (h0 : w.cell? (a.add 0) = some v) : ∃ b o, a = ⟨b, o, none⟩ ∧ b < w.heap.size := by
  have h : w.cell? a = some v := by simpa [Addr.add] using h0
  obtain ⟨blk, off, spot⟩ := a
  cases spot with
  | none =>
    refine ⟨blk, off, rfl, ?_⟩
    cases hh : w.heap[blk]? with
    | none => simp [World.cell?, hh] at h
    | some o => exact (Array.getElem?_eq_some_iff.1 hh).1
  | some s => simp only [World.cell?] at h; split at h <;> simp at h
theorem weights_all {H : Type} {P : Program} {e : TypeId} {d : DataW H} {n : Nat} (hn : n ∈ d.weights P e) : ∀ {l : List (DataW H)}, d ∈ l → n ∈ DataW.weightsAll P e l
  | [], h => by cases h
  | x :: l, h => by
    simp only [DataW.weightsAll, List.mem_append]
    rcases List.mem_cons.1 h with rfl | h
    · exact .inl hn
    · exact .inr (weights_all hn h)
/-- No string and no slice of it takes more memory than there is. -/
def Fit {H : Type} (t : TypeId) (d : DataW H) : Prop := ∀ n ∈ d.weights Tryz.prog t, n ≤ reachBytes
theorem Fit.field {H : Type} {t u : TypeId} {fs : Array Field} {ds : List (DataW H)} {d : DataW H} {j : Nat} (ht : Tryz.prog.underlying t = some (.struct fs)) (h : Fit t (.agg ds)) (hj : (fs.toList.map (·.type))[j]? = some u) (hd : ds[j]? = some d) : Fit u d := fun n hn =>
  h n (by simp only [DataW.weights, ht]; exact DataW.weights_mem_each hj hd n hn)
theorem Fit.len {H : Type} {t e : TypeId} {el sp : List (DataW H)} (ht : Tryz.prog.underlying t = some (.slice e)) (h : Fit t (.slice el sp)) : el.length * Tryz.prog.bytesOf e ≤ 140737488355328 := by
  have := h ((el.length + sp.length) * Tryz.prog.bytesOf e) (by simp [DataW.weights, ht])
  have h2 : reachBytes ≤ 140737488355328 := by decide
  exact Nat.le_trans (Nat.mul_le_mul_right _ (by omega)) (Nat.le_trans this h2)
theorem Fit.elem {H : Type} {t e : TypeId} {el sp : List (DataW H)} (ht : Tryz.prog.underlying t = some (.slice e)) (h : Fit t (.slice el sp)) {d : DataW H} (hd : d ∈ el) : Fit e d := fun n hn =>
  h n (by simp only [DataW.weights, ht, List.mem_cons, List.mem_append]; exact .inr (.inl (weights_all hn hd)))
theorem bytes74 : Tryz.prog.bytesOf 74 = 48 := by kernel_rfl
theorem bytes78 : Tryz.prog.bytesOf 78 = 80 := by kernel_rfl
theorem bytes5 : Tryz.prog.bytesOf 5 = 1 := by kernel_rfl
set_option maxRecDepth 100000
section
variable {H : Type} {enc : TypeId × Value → H} {w : World} {held : Bool}
theorem slice_open {t e : TypeId} {n : Nat} {cs : List Value} {x : DataW H × List MemPlace} (ht : Tryz.prog.underlying t = some (.slice e)) (h : DataW.trod enc Tryz.prog w 0 (fun _ => true) held n t cs = some x) : ∃ a len cap, cs = [.slice a len cap] ∧ len ≤ cap ∧ (len = 0 ∨ ∃ el sp, x.1 = .slice el sp ∧ el.length = len) := by
  rcases open_slice ht h with ⟨h0, -⟩ | ⟨a, len, cap, m, n, D, Pl, h1, -, h2, h3, -, hxx, -⟩
  · exact ⟨_, _, _, h0, Nat.le_refl _, .inl rfl⟩
  · exact ⟨_, _, _, h1, h2, .inr ⟨_, _, by rw [hxx], by simp⟩⟩
theorem node_open {n : Nat} {cs : List Value} {x : DataW H × List MemPlace} (h : DataW.trod enc Tryz.prog w 0 (fun _ => true) held n 74 cs = some x) : ∃ kd tx ka kl kc, cs = [.int .i64 kd, .string tx, .slice ka kl kc] := by
  obtain ⟨y0, y1, y2, m, -, hl, h0, h1, h2⟩ := trod_struct3 Tryz.underlying74 h
  rw [cells74] at hl
  match cs, hl with
  | [a, b, c], _ =>
    rw [cells3] at h0; rw [cells9] at h1; rw [cells72] at h2
    obtain ⟨kd, e0, -, -⟩ := DataW.trod_int Tryz.underlying3 (show DataW.trod enc Tryz.prog w 0 (fun _ => true) held m 3 [a] = some y0 by simpa using h0)
    obtain ⟨tx, e1, -, -⟩ := DataW.trod_string Tryz.underlying9 (show DataW.trod enc Tryz.prog w 0 (fun _ => true) held m 9 [b] = some y1 by simpa using h1)
    obtain ⟨ka, kl, kc, e2, -, -⟩ := slice_open Tryz.underlying72 (show DataW.trod enc Tryz.prog w 0 (fun _ => true) held m 72 [c] = some y2 by simpa using h2)
    simp only [List.cons.injEq, and_true] at e0 e1 e2
    subst e0; subst e1; subst e2
    exact ⟨_, _, _, _, _, rfl⟩
theorem nodes_open {n : Nat} {cs : List Value} {x : DataW H × List MemPlace} (h : DataW.trod enc Tryz.prog w 0 (fun _ => true) held n 69 cs = some x) (hf : Fit 69 x.1) :
    ∃ na nl nc, cs = [.slice na nl nc] ∧ nl ≤ 140737488355328 ∧ (nl = 0 ∨ ∃ nb no, na = some ⟨nb, no, none⟩ ∧ nb < w.heap.size ∧ ∃ (Kd : Nat → Int) (T : Nat → ByteArray) (KA : Nat → Option Addr) (KL KC : Nat → Nat), ∀ i, i < nl → NodeAt w nb (no + i * 3) (Kd i) (T i) (KA i) (KL i) (KC i)) := by
  rcases open_slice Tryz.underlying69 h with ⟨h0, -⟩ | ⟨a, len, cap, m, n, D, Pl, h1, -, h2, h3, hm, hxx, hx⟩
  · exact ⟨_, _, _, h0, by decide, .inl rfl⟩
  · rw [hxx] at hf
    have hlen := Fit.len Tryz.underlying69 hf
    rw [bytes74, List.length_map, List.length_range] at hlen
    refine ⟨_, _, _, h1, by omega, ?_⟩
    rcases Nat.eq_zero_or_pos len with h0 | hpos
    · exact .inl h0
    · right
      rw [if_pos rfl] at hm
      rw [cells74] at hx
      have each : ∀ i, i < len → ∃ v : Int × ByteArray × Option Addr × Nat × Nat, w.cells? 0 (a.add (i * 3)) 3 = some [.int .i64 v.1, .string v.2.1, .slice v.2.2.1 v.2.2.2.1 v.2.2.2.2] := fun i hi => by
        obtain ⟨cs', h4, h5⟩ := hx i (by omega)
        obtain ⟨kd, tx, ka, kl, kc, rfl⟩ := node_open h5
        exact ⟨(kd, tx, ka, kl, kc), h4⟩
      obtain ⟨V, hV⟩ := choose_lt each
      obtain ⟨-, -, hc0⟩ := World.cells?_some (hV 0 hpos)
      have hq : w.cell? (a.add 0) = some (.int .i64 (V 0).1) := by have := hc0 0 (by decide); rwa [Nat.zero_mul, add_add] at this
      obtain ⟨b, o, rfl, hlt⟩ := at_cell hq
      refine ⟨b, o, rfl, hlt, fun i => (V i).1, fun i => (V i).2.1, fun i => (V i).2.2.1, fun i => (V i).2.2.2.1, fun i => (V i).2.2.2.2, fun i hi => ?_⟩
      obtain ⟨-, -, hc⟩ := World.cells?_some (hV i hi)
      have key : ∀ j, j < 3 → w.cell? ⟨b, o + i * 3 + j, none⟩ = ([.int .i64 (V i).1, .string (V i).2.1, .slice (V i).2.2.1 (V i).2.2.2.1 (V i).2.2.2.2] : List Value)[j]? := fun j hj => by
        have := hc j hj
        rwa [Am.Addr.add_none, Am.Addr.add_none] at this
      exact ⟨key 0 (by decide), key 1 (by decide), key 2 (by decide)⟩
theorem op_open {n : Nat} {cs : List Value} {x : DataW H × List MemPlace} (h : DataW.trod enc Tryz.prog w 0 (fun _ => true) held n 78 cs = some x) (hf : Fit 78 x.1) :
    ∃ d f p na nl nc z, cs = [.string d, .string f, .string p, .slice na nl nc, .int .i64 z] ∧ nl ≤ 140737488355328 ∧ (nl = 0 ∨ ∃ nb no, na = some ⟨nb, no, none⟩ ∧ nb < w.heap.size ∧ ∃ (Kd : Nat → Int) (T : Nat → ByteArray) (KA : Nat → Option Addr) (KL KC : Nat → Nat), ∀ i, i < nl → NodeAt w nb (no + i * 3) (Kd i) (T i) (KA i) (KL i) (KC i)) := by
  obtain ⟨y0, y1, y2, y3, m, hxx, hl, h0, h1, h2, h3⟩ := Joins.trod_struct4 Tryz.underlying78 h
  rw [hxx] at hf
  rw [cells78] at hl
  match cs, hl with
  | [a, b, c, d, e], _ =>
    rw [cells9] at h0 h1 h2; rw [cells71] at h3
    obtain ⟨s0, e0, -, -⟩ := DataW.trod_string Tryz.underlying9 (show DataW.trod enc Tryz.prog w 0 (fun _ => true) held m 9 [a] = some y0 by simpa using h0)
    obtain ⟨s1, e1, -, -⟩ := DataW.trod_string Tryz.underlying9 (show DataW.trod enc Tryz.prog w 0 (fun _ => true) held m 9 [b] = some y1 by simpa using h1)
    obtain ⟨s2, e2, -, -⟩ := DataW.trod_string Tryz.underlying9 (show DataW.trod enc Tryz.prog w 0 (fun _ => true) held m 9 [c] = some y2 by simpa using h2)
    obtain ⟨z0, z1, k, hyy, -, g0, g1⟩ := trod_struct2 Tryz.underlying71 (show DataW.trod enc Tryz.prog w 0 (fun _ => true) held m 71 [d, e] = some y3 by simpa using h3)
    rw [cells69] at g0; rw [cells3] at g1
    have hf3 : Fit 71 y3.1 := Fit.field Tryz.underlying78 hf (j := 3) rfl rfl
    rw [hyy] at hf3
    obtain ⟨na, nl, nc, e3, h4, h5⟩ := nodes_open (show DataW.trod enc Tryz.prog w 0 (fun _ => true) held k 69 [d] = some z0 by simpa using g0) (Fit.field Tryz.underlying71 hf3 (j := 0) rfl rfl)
    obtain ⟨z, e4, -, -⟩ := DataW.trod_int Tryz.underlying3 (show DataW.trod enc Tryz.prog w 0 (fun _ => true) held k 3 [e] = some z1 by simpa using g1)
    simp only [List.cons.injEq, and_true] at e0 e1 e2 e3 e4
    subst e0; subst e1; subst e2; subst e3; subst e4
    exact ⟨_, _, _, _, _, _, _, rfl, h4, h5⟩
theorem ops_open {n : Nat} {cs : List Value} {x : DataW H × List MemPlace} (h : DataW.trod enc Tryz.prog w 0 (fun _ => true) held n 22 cs = some x) (hf : Fit 22 x.1) :
    ∃ oa l oc, cs = [.slice oa l oc] ∧ l ≤ oc ∧ OpsAt w oa l := by
  rcases open_slice Tryz.underlying22 h with ⟨h0, -⟩ | ⟨a, len, cap, m, n, D, Pl, h1, -, h2, h3, hm, hxx, hx⟩
  · exact ⟨_, _, _, h0, Nat.le_refl _, by decide, .inl rfl⟩
  · rw [hxx] at hf
    have h80 := Fit.len Tryz.underlying22 hf
    rw [bytes78, List.length_map, List.length_range] at h80
    refine ⟨_, _, _, h1, h2, by omega, ?_⟩
    rcases Nat.eq_zero_or_pos len with h0 | hpos
    · exact .inl h0
    · right
      rw [if_pos rfl] at hm
      rw [cells78] at hx
      have each : ∀ i, i < len → ∃ v : ByteArray × ByteArray × ByteArray × Option Addr × Nat × Nat × Int, w.cells? 0 (a.add (i * 5)) 5 = some [.string v.1, .string v.2.1, .string v.2.2.1, .slice v.2.2.2.1 v.2.2.2.2.1 v.2.2.2.2.2.1, .int .i64 v.2.2.2.2.2.2] ∧
          v.2.2.2.2.1 ≤ 140737488355328 ∧ (v.2.2.2.2.1 = 0 ∨ ∃ nb no, v.2.2.2.1 = some ⟨nb, no, none⟩ ∧ nb < w.heap.size ∧ ∃ (Kd : Nat → Int) (T : Nat → ByteArray) (KA : Nat → Option Addr) (KL KC : Nat → Nat), ∀ j, j < v.2.2.2.2.1 → NodeAt w nb (no + j * 3) (Kd j) (T j) (KA j) (KL j) (KC j)) := fun i hi => by
        obtain ⟨cs', h4, h5⟩ := hx i (by omega)
        obtain ⟨d, f, p, na, nl, nc, z, rfl, h6, h7⟩ := op_open h5 (Fit.elem Tryz.underlying22 hf (List.mem_map.2 ⟨i, List.mem_range.2 hi, rfl⟩))
        exact ⟨(d, f, p, na, nl, nc, z), h4, h6, h7⟩
      obtain ⟨V, hV⟩ := choose_lt each
      obtain ⟨-, -, hc0⟩ := World.cells?_some (hV 0 hpos).1
      have hq : w.cell? (a.add 0) = some (.string (V 0).1) := by have := hc0 0 (by decide); rwa [Nat.zero_mul, add_add] at this
      obtain ⟨b, o, rfl, hlt⟩ := at_cell hq
      refine ⟨b, o, rfl, hlt, h80, fun i => (V i).1, fun i => (V i).2.1, fun i => (V i).2.2.1, fun i => (V i).2.2.2.1, fun i => (V i).2.2.2.2.1, fun i => (V i).2.2.2.2.2.1, fun i => (V i).2.2.2.2.2.2, fun i hi => ⟨?_, (hV i hi).2.1, (hV i hi).2.2⟩⟩
      obtain ⟨-, -, hc⟩ := World.cells?_some (hV i hi).1
      have key : ∀ j, j < 5 → w.cell? ⟨b, o + i * 5 + j, none⟩ = ([.string (V i).1, .string (V i).2.1, .string (V i).2.2.1, .slice (V i).2.2.2.1 (V i).2.2.2.2.1 (V i).2.2.2.2.2.1, .int .i64 (V i).2.2.2.2.2.2] : List Value)[j]? := fun j hj => by
        have := hc j hj
        rwa [Am.Addr.add_none, Am.Addr.add_none] at this
      exact ⟨key 0 (by decide), key 1 (by decide), key 2 (by decide), key 3 (by decide), key 4 (by decide)⟩
/-- An act, by value. -/
theorem act_open {r : Reach} {b0 : Nat} {v : Value} {d : DataW H} {p : List MemPlace} (hv : Value.okWide Tryz.prog w r b0 27 v) (h : DataW.Trod enc Tryz.prog w 0 (fun _ => true) held 27 v d p) (hf : Fit 27 d) :
    ∃ (n oc rn rc : Nat) (kd nn id by_ : Int) (oa ra : Option Addr), v = .agg #[.int .u8 kd, .int .i64 nn, .int .i64 id, .slice oa n oc, .slice ra rn rc, .int .u8 by_] ∧ rn ≤ 140737488355328 ∧ rn ≤ rc ∧ n ≤ oc ∧ OpsAt w oa n := by
  obtain ⟨cs, rfl, hsz⟩ := okWide_struct Tryz.underlying27 hv
  rw [cells27] at hsz
  obtain ⟨fuel, hx⟩ := h
  obtain ⟨xs, n, -, hxx, hl, hlen, hff⟩ := DataW.trod_struct Tryz.underlying27 hx
  obtain ⟨l⟩ := cs
  match l, hsz with
  | [a, b, c, e, g, i], _ =>
    match xs, hlen with
    | [y0, y1, y2, y3, y4], _ =>
      simp only [Value.cells] at hff
      have h0 : DataW.trod enc Tryz.prog w 0 (fun _ => true) held n 5 ((([a, b, c, e, g, i] : List Value).drop 0).take (Tryz.prog.cellsOf 5)) = some y0 := hff 0 _ rfl
      have h1 : DataW.trod enc Tryz.prog w 0 (fun _ => true) held n 3 ((([a, b, c, e, g, i] : List Value).drop 1).take (Tryz.prog.cellsOf 3)) = some y1 := hff 1 _ rfl
      have h2 : DataW.trod enc Tryz.prog w 0 (fun _ => true) held n 24 ((([a, b, c, e, g, i] : List Value).drop 2).take (Tryz.prog.cellsOf 24)) = some y2 := hff 2 _ rfl
      have h3 : DataW.trod enc Tryz.prog w 0 (fun _ => true) held n 25 ((([a, b, c, e, g, i] : List Value).drop 4).take (Tryz.prog.cellsOf 25)) = some y3 := hff 3 _ rfl
      have h4 : DataW.trod enc Tryz.prog w 0 (fun _ => true) held n 5 ((([a, b, c, e, g, i] : List Value).drop 5).take (Tryz.prog.cellsOf 5)) = some y4 := hff 4 _ rfl
      rw [cells5] at h0 h4; rw [cells3] at h1; rw [cells24] at h2; rw [cells25] at h3
      simp only [Prod.mk.injEq] at hxx
      obtain ⟨rfl, -⟩ := hxx
      obtain ⟨kd, e0, -, -⟩ := DataW.trod_int Tryz.underlying5 (show DataW.trod enc Tryz.prog w 0 (fun _ => true) held n 5 [a] = some y0 by simpa using h0)
      obtain ⟨nn, e1, -, -⟩ := DataW.trod_int Tryz.underlying3 (show DataW.trod enc Tryz.prog w 0 (fun _ => true) held n 3 [b] = some y1 by simpa using h1)
      obtain ⟨by_, e4, -, -⟩ := DataW.trod_int Tryz.underlying5 (show DataW.trod enc Tryz.prog w 0 (fun _ => true) held n 5 [i] = some y4 by simpa using h4)
      obtain ⟨ra, rn, rc, e3, hr, hr2⟩ := slice_open Tryz.underlying25 (show DataW.trod enc Tryz.prog w 0 (fun _ => true) held n 25 [g] = some y3 by simpa using h3)
      have hf3 : Fit 25 y3.1 := Fit.field Tryz.underlying27 hf (j := 3) rfl rfl
      have hf2 : Fit 24 y2.1 := Fit.field Tryz.underlying27 hf (j := 2) rfl rfl
      obtain ⟨z0, z1, k, hyy, -, g0, g1⟩ := trod_struct2 Tryz.underlying24 (show DataW.trod enc Tryz.prog w 0 (fun _ => true) held n 24 [c, e] = some y2 by simpa using h2)
      rw [cells3] at g0; rw [cells22] at g1
      rw [hyy] at hf2
      obtain ⟨id, e2, -, -⟩ := DataW.trod_int Tryz.underlying3 (show DataW.trod enc Tryz.prog w 0 (fun _ => true) held k 3 [c] = some z0 by simpa using g0)
      obtain ⟨oa, m, oc, e5, ho, hO⟩ := ops_open (show DataW.trod enc Tryz.prog w 0 (fun _ => true) held k 22 [e] = some z1 by simpa using g1) (Fit.field Tryz.underlying24 hf2 (j := 1) rfl rfl)
      simp only [List.cons.injEq, and_true] at e0 e1 e2 e3 e4 e5
      subst e0; subst e1; subst e2; subst e3; subst e4; subst e5
      refine ⟨m, oc, rn, rc, kd, nn, id, by_, oa, ra, rfl, ?_, hr, ho, hO⟩
      rcases hr2 with h0 | ⟨el, sp, h0, h5⟩
      · rw [h0]; decide
      · rw [h0] at hf3
        have := Fit.len Tryz.underlying25 hf3
        rw [bytes5, Nat.mul_one, h5] at this
        exact this
end
end Go.Proofs.Zt
