/- A part of the abstract machine, or of a proof over it. -/
import Derived.Test.YtnpkghopofokhaaGreatDoorAmRel
namespace Go.Am

noncomputable def H.setD (h : H) (l : Nat) (o : Obj) : H := ⟨h.o.put l (some o), h.nx⟩
noncomputable def H.newD (h : H) (o : Obj) : H := ⟨h.o.put h.nx (some o), h.nx + 1⟩
noncomputable def H.delD (h : H) (l : Nat) : H := ⟨h.o.put l none, h.nx⟩
def H.bumpD (h : H) (n : Nat) : H := ⟨h.o, h.nx + n⟩
theorem H.set_eq {β : Type} (h : H) (l : Nat) (o : Obj) (k : H → β) : h.set l o k = k (h.setD l o) := by cases h; simp [H.set, H.setD, T.putK_eq]
theorem H.new_eq {β : Type} (h : H) (o : Obj) (k : Nat → H → β) : h.new o k = k h.nx (h.newD o) := by cases h; simp [H.new, H.newD, T.putK_eq, forceNat_eq]
theorem H.del_eq {β : Type} (h : H) (l : Nat) (k : H → β) : h.del l k = k (h.delD l) := by cases h; simp [H.del, H.delD, T.putK_eq]
theorem H.bump_eq {β : Type} (h : H) (n : Nat) (k : Nat → H → β) : h.bump n k = k h.nx (h.bumpD n) := by cases h; simp [H.bump, H.bumpD, forceNat_eq]
theorem H.get_setD (h : H) (l : Nat) (o : Obj) (j : Nat) : (h.setD l o).get j = if j = l then some o else h.get j := T.get_put _ _ _ _
theorem H.get_newD (h : H) (o : Obj) (j : Nat) : (h.newD o).get j = if j = h.nx then some o else h.get j := T.get_put _ _ _ _
theorem H.get_delD (h : H) (l : Nat) (j : Nat) : (h.delD l).get j = if j = l then none else h.get j := T.get_put _ _ _ _
@[simp] theorem H.nx_setD (h : H) (l : Nat) (o : Obj) : (h.setD l o).nx = h.nx := rfl
@[simp] theorem H.nx_newD (h : H) (o : Obj) : (h.newD o).nx = h.nx + 1 := rfl
@[simp] theorem H.nx_delD (h : H) (l : Nat) : (h.delD l).nx = h.nx := rfl

def Ren.at (r : Ren) (l : Nat) (loc : Loc) : Ren := fun x => if x = l then some loc else r x
@[simp] theorem Ren.at_same (r : Ren) (l : Nat) (loc : Loc) : r.at l loc l = some loc := by simp [Ren.at]
theorem Ren.at_ne (r : Ren) {l x : Nat} (loc : Loc) (h : x ≠ l) : r.at l loc x = r x := by simp [Ren.at, h]
theorem Ren.le_at {r : Ren} {l : Nat} (loc : Loc) (h : r l = none) : r.le (r.at l loc) := fun x y e => by
  by_cases hx : x = l
  · subst hx; rw [h] at e; cases e
  · rw [Ren.at_ne r loc hx]; exact e

variable {P : Program} {r : Ren} {h : H} {w : World}

theorem Sim.live_lt (hs : Sim P r h w) {l : Nat} (hl : h.get l ≠ none) : l < h.nx := by
  cases e : h.get l with
  | none => exact absurd e hl
  | some o => exact (hs.obj l o e).1
theorem Sim.blk_lt (hs : Sim P r h w) {l : Nat} {loc : Loc} (hl : h.get l ≠ none) (hr : r l = some loc) : loc.blk < w.heap.size := by
  cases e : h.get l with
  | none => exact absurd e hl
  | some o =>
    obtain ⟨-, loc', m, h1, h2, -⟩ := hs.obj l o e
    rw [hr] at h1; cases h1
    exact (Array.getElem?_eq_some_iff.1 h2).1
theorem Sim.of_heap {w' : World} (hs : Sim P r h w) (e : w'.heap = w.heap) : Sim P r h w' :=
  ⟨fun l o hl => by obtain ⟨a, loc, m, b, c, d⟩ := hs.obj l o hl; exact ⟨a, loc, m, b, by rw [e]; exact c, d⟩, hs.inj, hs.fresh, hs.gn, hs.gl⟩
theorem Step.drew (hs : Sim P r h w) (d : Nat) : Step P r h w r h { w with drawn := d } :=
  ⟨fun _ _ => rfl, Nat.le_refl _, hs.of_heap rfl, Nat.le_refl _, fun _ _ hu => ⟨rfl, hu⟩, fun _ _ _ _ hl hr => ⟨hl, hr, rfl⟩, rfl, rfl, rfl⟩

/-- An object turned in place. -/
theorem Sim.set (hs : Sim P r h w) {l : Nat} {o o' : Obj} {loc : Loc} {m' : Go.Obj} {w' : World} (hl : h.get l = some o) (hng : ∀ vs e, o ≠ .glob vs e) (hr : r l = some loc)
    (hsz : w'.heap.size = w.heap.size) (hb : w'.heap[loc.blk]? = some m') (ho : ∀ b, b ≠ loc.blk → w'.heap[b]? = w.heap[b]?) (hR : ObjR P r loc o' m')
    (e1 : w'.os = w.os) (e2 : w'.tape = w.tape) (e3 : w'.output = w.output) : Step P r h w r (h.setD l o') w' := by
  have live : ∀ x, (h.setD l o').get x ≠ none → h.get x ≠ none := fun x hx => by
    rw [H.get_setD] at hx; split at hx
    · rename_i e; subst e; rw [hl]; simp
    · exact hx
  refine ⟨fun _ _ => rfl, Nat.le_refl _, ⟨fun x ox hx => ?_, fun a b la lb ha hb' => hs.inj a b la lb (live a ha) (live b hb'), hs.fresh, hs.gn, hs.gl⟩, Nat.le_of_eq hsz.symm, fun b hb' hu => ⟨?_, ?_⟩, fun x vs e lx hx hrx => ?_, e1, e2, e3⟩
  · rw [H.get_setD] at hx
    split at hx
    · rename_i e; subst e; cases hx
      exact ⟨(hs.obj x o hl).1, loc, m', hr, hb, hR⟩
    · rename_i hne
      obtain ⟨a, lx, mx, b, c, d⟩ := hs.obj x ox hx
      refine ⟨a, lx, mx, b, ?_, d⟩
      rw [ho _ (fun e => hne (hs.inj x l lx loc (by rw [hx]; simp) (by rw [hl]; simp) b hr e))]; exact c
  · exact ho b (fun e => hu l loc (by rw [hl]; simp) hr e.symm)
  · exact fun x lx hx hrx => hu x lx (live x hx) hrx
  · have hne : x ≠ l := fun e => by subst e; rw [hl] at hx; cases hx; exact hng _ _ rfl
    refine ⟨by rw [H.get_setD, if_neg hne]; exact hx, hrx, ho _ fun e => hne (hs.inj x l lx loc (by rw [hx]; simp) (by rw [hl]; simp) hrx hr e)⟩

/-- A new object, in a new block. -/
theorem Sim.new (hs : Sim P r h w) {o : Obj} {loc : Loc} {m : Go.Obj} {w' : World} (hb : loc.blk = w.heap.size) (hh : w'.heap = w.heap.push m) (hR : ObjR P (r.at h.nx loc) loc o m)
    (e1 : w'.os = w.os) (e2 : w'.tape = w.tape) (e3 : w'.output = w.output) : Step P r h w (r.at h.nx loc) (h.newD o) w' := by
  have hle : r.le (r.at h.nx loc) := Ren.le_at loc (hs.fresh _ (Nat.le_refl _))
  have hold : ∀ b, b < w.heap.size → w'.heap[b]? = w.heap[b]? := fun b hb' => by rw [hh, Array.getElem?_push, if_neg (by omega)]
  have hnew : w'.heap[loc.blk]? = some m := by rw [hh, Array.getElem?_push, if_pos hb]
  have hlive : ∀ x, x ≠ h.nx → (h.newD o).get x = h.get x := fun x hx => by rw [H.get_newD, if_neg hx]
  refine ⟨fun l hl => Ren.at_ne r loc (by omega), Nat.le_succ _, ⟨fun x ox hx => ?_, fun a b la lb ha hb' ra rb e => ?_, fun l hl => ?_, Nat.le_succ_of_le hs.gn, fun g hg => ?_⟩, by rw [hh]; simp, fun b hb' hu => ⟨hold b hb', fun x lx hx hrx => ?_⟩, fun x vs e lx hx hrx => ?_, e1, e2, e3⟩
  · by_cases hx' : x = h.nx
    · subst hx'; rw [H.get_newD, if_pos rfl] at hx; cases hx
      exact ⟨Nat.lt_succ_self _, loc, m, Ren.at_same _ _ _, hnew, hR⟩
    · rw [hlive x hx'] at hx
      obtain ⟨a, lx, mx, b, c, d⟩ := hs.obj x ox hx
      exact ⟨Nat.lt_succ_of_lt a, lx, mx, hle _ _ b, by rw [hold _ (Array.getElem?_eq_some_iff.1 c).1]; exact c, d.mono hle⟩
  · by_cases ha' : a = h.nx
    · by_cases hb'' : b = h.nx
      · rw [ha', hb'']
      · exfalso
        subst ha'; rw [Ren.at_same] at ra; cases ra
        rw [hlive b hb''] at hb'; rw [Ren.at_ne r loc hb''] at rb
        have := hs.blk_lt hb' rb; omega
    · by_cases hb'' : b = h.nx
      · exfalso
        subst hb''; rw [Ren.at_same] at rb; cases rb
        rw [hlive a ha'] at ha; rw [Ren.at_ne r loc ha'] at ra
        have := hs.blk_lt ha ra; omega
      · rw [hlive a ha'] at ha; rw [hlive b hb''] at hb'; rw [Ren.at_ne r loc ha'] at ra; rw [Ren.at_ne r loc hb''] at rb
        exact hs.inj a b la lb ha hb' ra rb e
  · have : h.nx + 1 ≤ l := hl
    rw [Ren.at_ne r loc (by omega)]; exact hs.fresh l (by omega)
  · rw [Ren.at_ne r loc (by have := hs.gn; omega)]; exact hs.gl g hg
  · by_cases hx' : x = h.nx
    · subst hx'; rw [Ren.at_same] at hrx; cases hrx; omega
    · rw [hlive x hx'] at hx; rw [Ren.at_ne r loc hx'] at hrx; exact hu x lx hx hrx
  · have hx' : x ≠ h.nx := fun e => by have := (hs.obj x _ hx).1; omega
    exact ⟨by rw [hlive x hx']; exact hx, by rw [Ren.at_ne r loc hx']; exact hrx, hold _ (hs.blk_lt (by rw [hx]; simp) hrx)⟩

/-- An object forgotten. -/
theorem Sim.del (hs : Sim P r h w) (l : Nat) (hng : ∀ vs e, h.get l ≠ some (.glob vs e)) : Step P r h w r (h.delD l) w := by
  have live : ∀ x o, (h.delD l).get x = some o → x ≠ l ∧ h.get x = some o := fun x o hx => by
    rw [H.get_delD] at hx; split at hx
    · cases hx
    · rename_i e; exact ⟨e, hx⟩
  have live' : ∀ x, (h.delD l).get x ≠ none → h.get x ≠ none := fun x hx => by
    cases e : (h.delD l).get x with
    | none => exact absurd e hx
    | some o => rw [(live x o e).2]; simp
  exact ⟨fun _ _ => rfl, Nat.le_refl _, ⟨fun x o hx => hs.obj x o (live x o hx).2, fun a b la lb ha hb => hs.inj a b la lb (live' a ha) (live' b hb), hs.fresh, hs.gn, hs.gl⟩, Nat.le_refl _,
    fun b _ hu => ⟨rfl, fun x lx hx => hu x lx (live' x hx)⟩, fun x vs e lx hx hrx => ⟨by rw [H.get_delD, if_neg (fun e' => by subst e'; exact hng _ _ hx)]; exact hx, hrx, rfl⟩, rfl, rfl, rfl⟩

/-- An object that goes on under a new id, in the same block. -/
theorem Sim.grow (hs : Sim P r h w) {l : Nat} {o o' : Obj} {loc loc' : Loc} {m' : Go.Obj} {w' : World} (hl : h.get l = some o) (hng : ∀ vs e, o ≠ .glob vs e) (hr : r l = some loc) (hbb : loc'.blk = loc.blk)
    (hsz : w'.heap.size = w.heap.size) (hb : w'.heap[loc.blk]? = some m') (ho : ∀ b, b ≠ loc.blk → w'.heap[b]? = w.heap[b]?) (hR : ObjR P (r.at h.nx loc') loc' o' m')
    (e1 : w'.os = w.os) (e2 : w'.tape = w.tape) (e3 : w'.output = w.output) : Step P r h w (r.at h.nx loc') ((h.delD l).newD o') w' := by
  have hle : r.le (r.at h.nx loc') := Ren.le_at loc' (hs.fresh _ (Nat.le_refl _))
  have hlt : l < h.nx := (hs.obj l o hl).1
  have hget : ∀ x, ((h.delD l).newD o').get x = if x = h.nx then some o' else if x = l then none else h.get x := fun x => by
    rw [H.get_newD, H.get_delD]; rfl
  have live : ∀ x ox, x ≠ h.nx → ((h.delD l).newD o').get x = some ox → x ≠ l ∧ h.get x = some ox := fun x ox hx hg => by
    rw [hget, if_neg hx] at hg; split at hg
    · cases hg
    · rename_i e; exact ⟨e, hg⟩
  have live' : ∀ x, x ≠ h.nx → ((h.delD l).newD o').get x ≠ none → x ≠ l ∧ h.get x ≠ none := fun x hx hg => by
    cases e : ((h.delD l).newD o').get x with
    | none => exact absurd e hg
    | some ox => obtain ⟨a, b⟩ := live x ox hx e; exact ⟨a, by rw [b]; simp⟩
  have hln : h.get l ≠ none := by rw [hl]; simp
  refine ⟨fun x hx => Ren.at_ne r loc' (by omega), Nat.le_succ _, ⟨fun x ox hx => ?_, fun a b la lb ha hb' ra rb e => ?_, fun x hx => ?_, Nat.le_succ_of_le hs.gn, fun g hg => ?_⟩, Nat.le_of_eq hsz.symm, fun b hb' hu => ⟨?_, fun x lx hx hrx => ?_⟩, fun x vs e lx hx hrx => ?_, e1, e2, e3⟩
  · by_cases hx' : x = h.nx
    · subst hx'; rw [hget, if_pos rfl] at hx; cases hx
      exact ⟨Nat.lt_succ_self _, loc', m', Ren.at_same _ _ _, by rw [hbb]; exact hb, hR⟩
    · obtain ⟨hxl, hx⟩ := live x ox hx' hx
      obtain ⟨a, lx, mx, b, c, d⟩ := hs.obj x ox hx
      refine ⟨Nat.lt_succ_of_lt a, lx, mx, hle _ _ b, ?_, d.mono hle⟩
      rw [ho _ (fun e => hxl (hs.inj x l lx loc (by rw [hx]; simp) hln b hr e))]; exact c
  · by_cases ha' : a = h.nx
    · by_cases hb'' : b = h.nx
      · rw [ha', hb'']
      · exfalso
        subst ha'; rw [Ren.at_same] at ra; cases ra
        obtain ⟨c, d⟩ := live' b hb'' hb'; rw [Ren.at_ne r loc' hb''] at rb
        exact c (hs.inj b l lb loc d hln rb hr (by rw [← e, hbb]))
    · by_cases hb'' : b = h.nx
      · exfalso
        subst hb''; rw [Ren.at_same] at rb; cases rb
        obtain ⟨c, d⟩ := live' a ha' ha; rw [Ren.at_ne r loc' ha'] at ra
        exact c (hs.inj a l la loc d hln ra hr (by rw [e, hbb]))
      · rw [Ren.at_ne r loc' ha'] at ra; rw [Ren.at_ne r loc' hb''] at rb
        exact hs.inj a b la lb (live' a ha' ha).2 (live' b hb'' hb').2 ra rb e
  · have : h.nx + 1 ≤ x := hx
    rw [Ren.at_ne r loc' (by omega)]; exact hs.fresh x (by omega)
  · rw [Ren.at_ne r loc' (by have := hs.gn; omega)]; exact hs.gl g hg
  · exact ho b (fun e => hu l loc hln hr e.symm)
  · by_cases hx' : x = h.nx
    · subst hx'; rw [Ren.at_same] at hrx; cases hrx; rw [hbb]; exact hu l loc hln hr
    · rw [Ren.at_ne r loc' hx'] at hrx; exact hu x lx (live' x hx' hx).2 hrx
  · have hx' : x ≠ h.nx := fun e => by have := (hs.obj x _ hx).1; omega
    have hxl : x ≠ l := fun e => by subst e; rw [hl] at hx; cases hx; exact hng _ _ rfl
    exact ⟨by rw [hget, if_neg hx', if_neg hxl]; exact hx, by rw [Ren.at_ne r loc' hx']; exact hrx, ho _ fun e => hxl (hs.inj x l lx loc (by rw [hx]; simp) hln hrx hr e)⟩

theorem Sim.bump (hs : Sim P r h w) (n : Nat) : Step P r h w r (h.bumpD n) w :=
  ⟨fun _ _ => rfl, Nat.le_add_right _ _, ⟨fun l o hl => let ⟨a, b⟩ := hs.obj l o hl; ⟨Nat.lt_of_lt_of_le a (Nat.le_add_right _ _), b⟩, hs.inj, fun l hl => hs.fresh l (Nat.le_trans (Nat.le_add_right _ _) hl), Nat.le_trans hs.gn (Nat.le_add_right _ _), hs.gl⟩,
    Nat.le_refl _, fun _ _ hu => ⟨rfl, hu⟩, fun _ _ _ _ hl hr => ⟨hl, hr, rfl⟩, rfl, rfl, rfl⟩
end Go.Am
