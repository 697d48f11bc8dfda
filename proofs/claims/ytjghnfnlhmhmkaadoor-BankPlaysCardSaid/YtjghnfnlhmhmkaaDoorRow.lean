/- A row of entries in memory that is written in place. -/
import Derived.Test.YtjghnfnlhmhmkaaDoorRefDigits
namespace Go.Proofs.YtjghnfnlhmhmkaaDoor
open Go Go.RowKit Go.MapKept Go.ChangeMaps

theorem setCell_heap {w : World} {g : Nat} {cur : Array Value} {t : TypeId} {fr : Nat × Nat} (h : w.heap[g]? = some (.cells cur t fr)) (o : Nat) (u : Value) : (w.setCell ⟨g, o, none⟩ u).heap[g]? = some (.cells (cur.setIfInBounds o u) t fr) := by
  simp [World.setCell, Array.getElem?_modify, h]
/-- Block g holds the entries E in its first cells, with room for cap. -/
def RowAt (w : World) (g cap : Nat) (E : List (BA × BA)) : Prop :=
  ∃ cur, w.heap[g]? = some (.cells cur 56 (0, 0)) ∧ cur.size = cap * 2 ∧ E.length ≤ cap ∧ ∀ i y, E[i]? = some y → cur[i * 2]? = some (.string y.1) ∧ cur[i * 2 + 1]? = some (.string y.2)
theorem RowAt.of_own {w : World} {base g cap n : Nat} {E : List (BA × BA)} (h : w.ownsRow base 56 2 (.slice (some ⟨g, 0, none⟩) n cap) n (E.flatMap encEnt)) (hn : E.length = n) (h0 : 0 < n) : RowAt w g cap E ∧ base ≤ g ∧ cap ≤ maxLen := by
  obtain ⟨g', cap', cur, he, hb, hlt, hh, h1, h2, h3, h4⟩ := own_some h h0
  cases he
  refine ⟨⟨cur, hh, h3, by omega, fun i y hy => ?_⟩, hb, h2⟩
  have hat : ∀ j, j < 2 → (E.flatMap encEnt)[i * 2 + j]? = (encEnt y)[j]? := fun j hj => by
    have := flat_at (enc := encEnt) (k := 2) (fun _ => rfl) E i j hj
    rw [hy] at this; simpa using this
  have hil := (List.getElem?_eq_some_iff.1 hy).1
  have hc : ∀ j, j < 2 → cur[i * 2 + j]? = (encEnt y)[j]? := fun j hj => by
    rw [← hat j hj, ← h4, List.getElem?_take_of_lt (by omega), Array.getElem?_toList]
  exact ⟨hc 0 (by omega), hc 1 (by omega)⟩
theorem RowAt.own {w : World} {base g cap : Nat} {E : List (BA × BA)} (h : RowAt w g cap E) (hb : base ≤ g) (hc : cap ≤ maxLen) : w.ownsRow base 56 2 (.slice (some ⟨g, 0, none⟩) E.length cap) E.length (E.flatMap encEnt) := by
  obtain ⟨cur, hh, h3, hl, hr⟩ := h
  have hfl := flat_length (enc := encEnt) (k := 2) (fun _ => rfl) E
  refine ⟨hfl, Or.inr ⟨g, cap, cur, rfl, hb, hh, hl, hc, h3, ?_⟩⟩
  apply List.ext_getElem?
  intro t
  by_cases ht : t < E.length * 2
  · have hi : t / 2 < E.length := by omega
    obtain ⟨y, hy⟩ : ∃ y, E[t / 2]? = some y := ⟨_, List.getElem?_eq_getElem hi⟩
    have hf := flat_at (enc := encEnt) (k := 2) (fun _ => rfl) E (t / 2) (t % 2) (by omega)
    rw [hy, show t / 2 * 2 + t % 2 = t by omega, Option.bind_some] at hf
    rw [List.getElem?_take_of_lt ht, Array.getElem?_toList, hf]
    obtain ⟨r1, r2⟩ := hr _ _ hy
    rcases Nat.mod_two_eq_zero_or_one t with e | e
    · rw [show t / 2 * 2 = t by omega] at r1
      rw [e, r1]; rfl
    · rw [show t / 2 * 2 + 1 = t by omega] at r2
      rw [e, r2]; rfl
  · rw [List.getElem?_take_eq_none (by omega), List.getElem?_eq_none (by omega)]
theorem RowAt.cells {w : World} {g cap : Nat} {E : List (BA × BA)} (h : RowAt w g cap E) {i : Nat} {y : BA × BA} (hy : E[i]? = some y) :
    w.cell? ⟨g, i * 2, none⟩ = some (.string y.1) ∧ w.cell? ⟨g, i * 2 + 1, none⟩ = some (.string y.2) := by
  obtain ⟨cur, hh, _, _, hr⟩ := h
  have := hr i y hy
  simp [World.cell?, hh, this.1, this.2]
theorem RowAt.free {w : World} {g cap : Nat} {E : List (BA × BA)} (h : RowAt w g cap E) (o : Nat) : w.frozen? ⟨g, o, none⟩ = false := by
  obtain ⟨cur, hh, _⟩ := h
  simp [World.frozen?, hh]
theorem RowAt.lt {w : World} {g cap : Nat} {E : List (BA × BA)} (h : RowAt w g cap E) : g < w.heap.size := by
  obtain ⟨cur, hh, _⟩ := h
  exact (Array.getElem?_eq_some_iff.1 hh).1
theorem RowAt.kept {S : Nat → Prop} {w w' : World} {g cap : Nat} {E : List (BA × BA)} (h : RowAt w g cap E) (hk : Kept S w w') (hS : ¬ S g) : RowAt w' g cap E := by
  have hl := h.lt
  obtain ⟨cur, hh, hr⟩ := h
  exact ⟨cur, (hk.block g hl hS).trans hh, hr⟩
/-- One entry is written. -/
theorem RowAt.put {w : World} {g cap : Nat} {E : List (BA × BA)} (h : RowAt w g cap E) (i : Nat) (x : BA × BA) (hi : i < E.length) :
    RowAt ((w.setCell ⟨g, i * 2, none⟩ (.string x.1)).setCell ⟨g, i * 2 + 1, none⟩ (.string x.2)) g cap (E.set i x) := by
  obtain ⟨cur, hh, h3, hl, hr⟩ := h
  refine ⟨_, setCell_heap (setCell_heap hh _ _) _ _, by simpa using h3, by simpa using hl, fun j y hy => ?_⟩
  by_cases e : j = i
  · subst e
    rw [List.getElem?_set_self (by simpa using hi)] at hy
    cases hy
    rw [Array.getElem?_setIfInBounds_ne (by omega), Array.getElem?_setIfInBounds_self_of_lt (by omega), Array.getElem?_setIfInBounds_self_of_lt (by simp; omega)]
    exact ⟨rfl, rfl⟩
  · rw [List.getElem?_set_ne (fun h => e h.symm)] at hy
    rw [Array.getElem?_setIfInBounds_ne (by omega), Array.getElem?_setIfInBounds_ne (by omega), Array.getElem?_setIfInBounds_ne (by omega), Array.getElem?_setIfInBounds_ne (by omega)]
    exact hr j y hy

/-- Between the two writes. -/
theorem RowAt.half {w : World} {g cap : Nat} {E : List (BA × BA)} (h : RowAt w g cap E) {i : Nat} {y : BA × BA} (hy : E[i]? = some y) (u : Value) :
    (w.setCell ⟨g, i * 2, none⟩ u).cell? ⟨g, i * 2 + 1, none⟩ = some (.string y.2) ∧ (w.setCell ⟨g, i * 2, none⟩ u).frozen? ⟨g, i * 2 + 1, none⟩ = false := by
  obtain ⟨cur, hh, _, _, hr⟩ := h
  have h1 := setCell_heap hh (i * 2) u
  have h2 := (hr i y hy).2
  constructor
  · simp only [World.cell?, h1]
    rw [Array.getElem?_setIfInBounds_ne (by omega), h2]
    rfl
  · simp [World.frozen?, h1]
theorem put_kept (w : World) (g o : Nat) (u v : Value) : Kept (fun k => k = g) w ((w.setCell ⟨g, o, none⟩ u).setCell ⟨g, o + 1, none⟩ v) :=
  Kept.setCell (S := fun k => k = g) (Kept.setCell (S := fun k => k = g) (Kept.refl _ w) (p := ⟨g, o, none⟩) (fun _ => rfl) u) (p := ⟨g, o + 1, none⟩) (fun _ => rfl) v

/-! ### insertion -/
def leE (a b : BA × BA) : Prop := ¬ b.1.toList < a.1.toList
theorem byKeys_iff (M : List (BA × BA)) : ByKeys M ↔ M.Pairwise leE := (List.pairwise_iff_getElem (R := leE)).symm
theorem leE_trans {a b c : BA × BA} (h1 : leE a b) (h2 : leE b c) : leE a c := List.not_lt.2 (List.le_trans (List.not_lt.1 h1) (List.not_lt.1 h2))
theorem leE_of_lt {a b : BA × BA} (h : a.1.toList < b.1.toList) : leE a b := fun h2 => List.lt_irrefl _ (List.lt_trans h h2)
/-- The row with x brought down to place j. -/
def ins (D : List (BA × BA)) (x : BA × BA) (j : Nat) : List (BA × BA) := D.take j ++ x :: D.drop j
theorem ins_length (D : List (BA × BA)) (x : BA × BA) (j : Nat) : (ins D x j).length = D.length + 1 := by
  unfold ins
  rw [List.length_append, List.length_cons, List.length_take, List.length_drop]
  omega
theorem ins_perm (D : List (BA × BA)) (x : BA × BA) (j : Nat) : (ins D x j).Perm (x :: D) := by
  unfold ins
  refine List.perm_middle.trans ?_
  rw [List.take_append_drop]
theorem ins_end (D : List (BA × BA)) (x : BA × BA) : ins D x D.length = D ++ [x] := by
  unfold ins; rw [List.take_length, List.drop_length]
theorem ins_at {D : List (BA × BA)} (x : BA × BA) {j : Nat} (hj : j ≤ D.length) : (ins D x j)[j]? = some x := by
  unfold ins
  rw [List.getElem?_append_right (by rw [List.length_take]; omega), List.length_take, show j - min j D.length = 0 by omega]
  rfl
theorem ins_before {D : List (BA × BA)} (x : BA × BA) {j : Nat} {y : BA × BA} (h : D[j]? = some y) : (ins D x (j + 1))[j]? = some y := by
  have hl := (List.getElem?_eq_some_iff.1 h).1
  unfold ins
  rw [List.getElem?_append_left (by rw [List.length_take]; omega), List.getElem?_take_of_lt (by omega), h]
theorem ins_swap {D : List (BA × BA)} (x : BA × BA) {j : Nat} {y : BA × BA} (h : D[j]? = some y) : ((ins D x (j + 1)).set (j + 1) y).set j x = ins D x j := by
  have hl := (List.getElem?_eq_some_iff.1 h).1
  apply List.ext_getElem?
  intro i
  by_cases h1 : i = j
  · subst h1
    rw [List.getElem?_set_self (by rw [List.length_set, ins_length]; omega), ins_at x (by omega)]
  · rw [List.getElem?_set_ne (fun e => h1 e.symm)]
    by_cases h2 : i = j + 1
    · subst h2
      rw [List.getElem?_set_self (by rw [ins_length]; omega)]
      unfold ins
      rw [List.getElem?_append_right (by rw [List.length_take]; omega), List.length_take, show j + 1 - min j D.length = 1 by omega, List.getElem?_cons_succ, List.getElem?_drop, Nat.add_zero, h]
    · rw [List.getElem?_set_ne (fun e => h2 e.symm)]
      unfold ins
      by_cases h3 : i < j
      · rw [List.getElem?_append_left (by rw [List.length_take]; omega), List.getElem?_append_left (by rw [List.length_take]; omega), List.getElem?_take_of_lt (by omega), List.getElem?_take_of_lt h3]
      · rw [List.getElem?_append_right (by rw [List.length_take]; omega), List.getElem?_append_right (by rw [List.length_take]; omega), List.length_take, List.length_take,
          show i - min (j + 1) D.length = (i - (j + 2)) + 1 by omega, show i - min j D.length = (i - (j + 1)) + 1 by omega, List.getElem?_cons_succ, List.getElem?_cons_succ, List.getElem?_drop, List.getElem?_drop]
        congr 1; omega
/-- Where it may rest, the row is sorted. -/
theorem ins_sorted {D : List (BA × BA)} {x : BA × BA} {j : Nat} (hD : D.Pairwise leE) (hup : ∀ b ∈ D.drop j, leE x b) (hlow : j = 0 ∨ ∃ y, D[j - 1]? = some y ∧ leE y x) (hj : j ≤ D.length) : (ins D x j).Pairwise leE := by
  have hs : (D.take j ++ D.drop j).Pairwise leE := by rwa [List.take_append_drop]
  obtain ⟨h1, h2, h3⟩ := List.pairwise_append.1 hs
  unfold ins
  refine List.pairwise_append.2 ⟨h1, List.pairwise_cons.2 ⟨hup, h2⟩, fun a ha b hb => ?_⟩
  rcases List.mem_cons.1 hb with rfl | hb
  · rcases hlow with rfl | ⟨y, hy, hyx⟩
    · simp at ha
    · obtain ⟨i, hi⟩ := List.mem_iff_getElem?.1 ha
      have hij : i < j := by
        have := (List.getElem?_eq_some_iff.1 hi).1
        rw [List.length_take] at this; omega
      rw [List.getElem?_take_of_lt hij] at hi
      by_cases e : i = j - 1
      · rw [e, hy] at hi; cases hi; exact hyx
      · obtain ⟨g1, e1⟩ := List.getElem?_eq_some_iff.1 hi
        obtain ⟨g2, e2⟩ := List.getElem?_eq_some_iff.1 hy
        have := List.pairwise_iff_getElem.1 hD i (j - 1) g1 g2 (by omega)
        rw [e1, e2] at this
        exact leE_trans this hyx
  · exact h3 a ha b hb
end Go.Proofs.YtjghnfnlhmhmkaaDoor
