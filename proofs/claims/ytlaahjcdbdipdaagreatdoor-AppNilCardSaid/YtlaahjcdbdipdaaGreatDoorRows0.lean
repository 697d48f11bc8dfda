/- Rows of structs: what the call owns, what the library's sort holds. No program in sight. -/
import Derived.Test.YtlaahjcdbdipdaaGreatDoorMap
import Derived.Shelf.SlSortCmp.WholeK
import Derived.Shelf.SlSortCmp.NoneTotal
import Derived.Sort.OwnSorted
import Derived.Sort.Walk0
namespace Go.Proofs.YtlaahjcdbdipdaaGreatDoor
open Go Go.RowKit Go.MapKept Go.ChangeMaps Go.Sort

theorem ownsRow_kept {w w' : World} {base e size n : Nat} {v : Value} {xs : List Value} {S : Nat → Prop} (h : w.ownsRow base e size v n xs) (hk : Kept S w w') (hS : ∀ k, base ≤ k → ¬ S k) : w'.ownsRow base e size v n xs := by
  obtain ⟨h1, h2⟩ := h
  refine ⟨h1, ?_⟩
  rcases h2 with h2 | ⟨g, cap, cur, hv, hg, hh, r⟩
  · exact Or.inl h2
  · exact Or.inr ⟨g, cap, cur, hv, hg, (hk.block g (Array.getElem?_eq_some_iff.1 hh).1 (hS g hg)).trans hh, r⟩
theorem ownsRow_lower {w : World} {base base' e size n : Nat} {v : Value} {xs : List Value} (h : w.ownsRow base e size v n xs) (hb : base' ≤ base) : w.ownsRow base' e size v n xs := by
  obtain ⟨h1, h2⟩ := h
  refine ⟨h1, ?_⟩
  rcases h2 with h2 | ⟨g, cap, cur, hv, hg, r⟩
  · exact Or.inl h2
  · exact Or.inr ⟨g, cap, cur, hv, Nat.le_trans hb hg, r⟩

section
variable {α : Type} [Inhabited α] {enc : α → List Value} {k : Nat}
omit [Inhabited α] in
theorem flat_length (hk : ∀ x, (enc x).length = k) : ∀ L : List α, (L.flatMap enc).length = L.length * k
  | [] => by simp
  | x :: L => by simp only [List.flatMap_cons, List.length_append, hk, flat_length hk L, List.length_cons]; rw [Nat.add_mul, Nat.one_mul, Nat.add_comm]
omit [Inhabited α] in
theorem flat_at (hk : ∀ x, (enc x).length = k) : ∀ (L : List α) (i c : Nat), c < k → (L.flatMap enc)[i * k + c]? = (L[i]?).bind fun x => (enc x)[c]?
  | [], i, c, _ => by simp
  | x :: L, 0, c, hc => by
    rw [List.flatMap_cons, List.getElem?_append_left (by rw [hk]; omega)]; simp
  | x :: L, i + 1, c, hc => by
    rw [List.flatMap_cons, List.getElem?_append_right (by rw [hk, Nat.add_mul]; omega), hk, show (i + 1) * k + c - k = i * k + c by rw [Nat.add_mul]; omega, flat_at hk L i c hc]
    simp
theorem flatK_list (hk : ∀ x, (enc x).length = k) (hk0 : 0 < k) (L : List α) : (flatK enc k L.toArray).toList = L.flatMap enc := by
  apply List.ext_getElem?
  intro t
  by_cases ht : t < L.length * k
  · have e : t = t / k * k + t % k := by rw [Nat.mul_comm]; exact (Nat.div_add_mod t k).symm
    have hc : t % k < k := Nat.mod_lt _ hk0
    have hi : t / k < L.length := (Nat.div_lt_iff_lt_mul hk0).2 ht
    rw [show (L.flatMap enc)[t]? = (L.flatMap enc)[t / k * k + t % k]? by rw [← e], flat_at hk L _ _ hc, List.getElem?_eq_getElem hi, Option.bind_some]
    have hs : t < (flatK enc k L.toArray).size := by simpa using ht
    rw [Array.getElem?_toList, Array.getElem?_eq_getElem hs, ← getElem!_pos (flatK enc k L.toArray) t hs, get_flatK enc k _ t (by simpa using ht)]
    have h2 : L.toArray[t / k]! = L[t / k] := by rw [getElem!_pos _ _ (by simpa using hi)]; simp
    rw [h2, List.getElem?_eq_getElem (by rw [hk]; exact hc), getElem!_pos _ _ (by rw [hk]; exact hc)]
  · rw [List.getElem?_eq_none (by simp; omega), List.getElem?_eq_none (by rw [flat_length hk]; omega)]
end

theorem heap_sortedF {w : World} {g n : Nat} {os : Array Obj} {cur : Array Value} {e : TypeId} {fr : Nat × Nat} (F : Array Value) (hb : w.heap[g]? = some (.cells cur e fr)) :
    (grow (putRow id (Sort.ahead w n) g 0 F) os).heap[g]? = some (.cells (putCells id 0 F cur) e fr) := by
  have hg : g < w.heap.size := (Array.getElem?_eq_some_iff.1 hb).1
  rw [heap_grow_old _ _ (by simpa using hg)]
  simp [putRow, mapBlock, Sort.ahead, Array.getElem?_modify, hb, onCells]
theorem kept_sortedF {w : World} {g n : Nat} {os : Array Obj} (F : Array Value) : Kept (fun j => j = g) w (grow (putRow id (Sort.ahead w n) g 0 F) os) := by
  refine ⟨rfl, rfl, rfl, by simp [grow, putRow, mapBlock, Sort.ahead], fun k hk hne => ?_⟩
  rw [heap_grow_old _ _ (by simpa using hk)]
  have : g ≠ k := fun e => hne e.symm
  simp [putRow, mapBlock, Sort.ahead, Array.getElem?_modify, this]
theorem take_putF (cur : Array Value) (F : Array Value) (h : F.size ≤ cur.size) : (putCells id 0 F cur).toList.take F.size = F.toList := by
  apply List.ext_getElem?
  intro j
  by_cases hj : j < F.size
  · rw [List.getElem?_take_of_lt hj, Array.getElem?_toList]
    simp [putCells, hj, show j < cur.size by omega]
  · rw [List.getElem?_take_eq_none (by omega), List.getElem?_eq_none (by simp; omega)]
/-- A slice that owns its row: where it lies, what is read there. -/
theorem own_some {w : World} {base e size n : Nat} {v : Value} {xs : List Value} (h : w.ownsRow base e size v n xs) (hn : 0 < n) :
    ∃ g cap cur, v = .slice (some ⟨g, 0, none⟩) n cap ∧ base ≤ g ∧ g < w.heap.size ∧ w.heap[g]? = some (.cells cur e (0, 0)) ∧ n ≤ cap ∧ cap ≤ maxLen ∧ cur.size = cap * size ∧ cur.toList.take (n * size) = xs := by
  rcases h.2 with ⟨_, h0⟩ | ⟨g, cap, cur, hv, hg, hh, r⟩
  · omega
  · exact ⟨g, cap, cur, hv, hg, (Array.getElem?_eq_some_iff.1 hh).1, hh, r⟩
theorem own_cell {w : World} {e g n size : Nat} {cur : Array Value} {xs : List Value} (hh : w.heap[g]? = some (.cells cur e (0, 0))) (ht : cur.toList.take (n * size) = xs) {j : Nat} {u : Value} (hu : xs[j]? = some u) :
    w.cell? ⟨g, j, none⟩ = some u ∧ w.frozen? ⟨g, j, none⟩ = false := by
  subst ht
  have hj : j < n * size := by
    rcases Nat.lt_or_ge j (n * size) with h | h
    · exact h
    · rw [List.getElem?_take_eq_none h] at hu; cases hu
  rw [List.getElem?_take_of_lt hj, Array.getElem?_toList] at hu
  refine ⟨?_, by simp [World.frozen?, hh]⟩
  simp only [World.cell?, hh, Option.isSome_none, Bool.false_eq_true, if_false, hu]
section
variable {α : Type} [Inhabited α] {enc : α → List Value} {k : Nat}
theorem holdsK_of_own (hk : ∀ x, (enc x).length = k) (hk0 : 0 < k) {w : World} {e g : Nat} {cur : Array Value} {L : List α} (hh : w.heap[g]? = some (.cells cur e (0, 0))) (ht : cur.toList.take (L.length * k) = L.flatMap enc) : HoldsK enc k w g 0 L.toArray := by
  intro j hj
  have hj' : j < (flatK enc k L.toArray).size := hj
  have e1 : (L.flatMap enc)[j]? = some ((flatK enc k L.toArray)[j]!) := by
    rw [← flatK_list hk hk0, Array.getElem?_toList, Array.getElem?_eq_getElem hj', getElem!_pos _ j hj']
  have := own_cell hh ht e1
  simpa using this
/-- BEHIND THE SORT the same slice owns the sorted row. -/
theorem own_sortedK (hk : ∀ x, (enc x).length = k) (hk0 : 0 < k) {w : World} {base e g cap n : Nat} {cur : Array Value} {L M : List α} {os : Array Obj} (hl : M.length = L.length) (hbase : base ≤ g) (hh : w.heap[g]? = some (.cells cur e (0, 0)))
    (h1 : L.length ≤ cap) (h2 : cap ≤ maxLen) (h3 : cur.size = cap * k) : (sortWorldK enc k w g 0 n M.toArray os).ownsRow base e k (.slice (some ⟨g, 0, none⟩) L.length cap) L.length (M.flatMap enc) := by
  refine ⟨by rw [flat_length hk, hl], .inr ⟨g, cap, _, rfl, hbase, heap_sortedF _ hh, h1, h2, by simp [putCells, h3], ?_⟩⟩
  have hs : (flatK enc k M.toArray).size = L.length * k := by simp [hl]
  rw [← hs, take_putF _ _ (by rw [hs, h3]; exact Nat.mul_le_mul_right _ h1), flatK_list hk hk0]
end

/-! ### texts, in order -/
theorem swo_bytes {α : Type} (f : α → List UInt8) : SWO (fun x y => decide (f x < f y)) where
  irrefl x := by simp
  trans x y z h1 h2 := by simp only [decide_eq_true_eq] at *; exact List.lt_trans h1 h2
  ntrans x y z h1 h2 := by
    simp only [decide_eq_false_iff_not] at *
    exact List.not_lt.2 (List.le_trans (List.not_lt.1 h2) (List.not_lt.1 h1))
end Go.Proofs.YtlaahjcdbdipdaaGreatDoor
