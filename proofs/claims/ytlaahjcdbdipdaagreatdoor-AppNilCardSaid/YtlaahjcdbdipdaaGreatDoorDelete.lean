/- A validator taken out of a row of one's own: the contract of slices.Delete at validators. -/
import Derived.Test.YtlaahjcdbdipdaaGreatDoorSearch
import Derived.Deep.RegionLaw
import Derived.Deep.MidRow
namespace Go.Proofs.YtlaahjcdbdipdaaGreatDoor
open Go Go.RowKit Go.MapKept Go.ChangeMaps

/-- Cells written into a row: what the row then holds. -/
theorem heap_setCells_row {g : Nat} {t : TypeId} : ∀ (vs : List Value) (o : Nat) {w : World} {cur : Array Value}, w.heap[g]? = some (.cells cur t (0, 0)) → o + vs.length ≤ cur.size →
    ∃ cur', (w.setCells g o vs).heap[g]? = some (.cells cur' t (0, 0)) ∧ cur'.size = cur.size ∧ cur'.toList = cur.toList.take o ++ vs ++ cur.toList.drop (o + vs.length)
  | [], o, w, cur, hg, _ => ⟨cur, hg, rfl, by simp⟩
  | v :: r, o, w, cur, hg, hl => by
    have h1 := heap_setCell_same w g o cur t v hg
    rw [List.length_cons] at hl
    obtain ⟨cur', h2, h3, h4⟩ := heap_setCells_row r (o + 1) h1 (by simpa using by omega)
    refine ⟨cur', by rw [World.setCells]; exact h2, by simpa using h3, ?_⟩
    rw [h4]
    have e := list_seg_step cur.toList o v r (by simpa using hl)
    simpa [Array.toList_setIfInBounds, Nat.add_assoc, Nat.add_comm 1] using e
theorem kept_setCells (g : Nat) : ∀ (vs : List Value) (o : Nat) (w : World), Kept (fun k => k = g) w (w.setCells g o vs)
  | [], _, w => Kept.refl _ w
  | v :: r, o, w => by rw [World.setCells]; exact ((Kept.refl (fun k => k = g) w).setCell (p := ⟨g, o, none⟩) (fun _ => rfl) v).trans (kept_setCells g r (o + 1) _)
theorem flat_take (l : List Val) (i : Nat) : (l.flatMap valC).take (i * 2) = (l.take i).flatMap valC := by
  induction i generalizing l with
  | zero => simp
  | succ i ih =>
    cases l with
    | nil => simp
    | cons x r =>
      rw [List.flatMap_cons, List.take_succ_cons, List.flatMap_cons, show (i + 1) * 2 = (valC x).length + i * 2 by rw [valC_length]; omega, List.take_length_add_append, ih]
theorem flat_drop (l : List Val) (i : Nat) : (l.flatMap valC).drop (i * 2) = (l.drop i).flatMap valC := by
  induction i generalizing l with
  | zero => simp
  | succ i ih =>
    cases l with
    | nil => simp
    | cons x r =>
      rw [List.flatMap_cons, List.drop_succ_cons, show (i + 1) * 2 = (valC x).length + i * 2 by rw [valC_length]; omega, List.drop_length_add_append, ih]
theorem zeroVal (w : World) : (zeroValue 100).run Tryz.prog w = .ok (.agg #[.int .u64 0, .int .i64 0]) w := by kernel_rfl
theorem clear_one (W : World) (g o c : Nat) (ty : TypeId) (hc : ∀ j, j < 2 → (W.cell? ⟨g, o + j, none⟩).isSome = true ∧ W.frozen? ⟨g, o + j, none⟩ = false) :
    (Builtin.clear_ #[22] ty #[.slice (some ⟨g, o, none⟩) 1 c]).run Tryz.prog W = .ok (.tuple #[]) (W.setCells g o [.int .u64 0, .int .i64 0]) := by
  have hzc : (Builtin.zeroCells (Value.agg #[.int .u64 0, .int .i64 0]).cells 1).toList = [.int .u64 0, .int .i64 0] := by kernel_rfl
  have hst := run_storeCells_cells (P := Tryz.prog) g o [.int .u64 0, .int .i64 0] 0 W (fun j hj => (hc j hj).1) (fun j hj => (hc j hj).2) (by simp [Value.oneCell'])
  simp only [Nat.add_zero] at hst
  simp [Builtin.clear_, run_underlying Tryz.underlying22, zeroVal, hzc, hst]
set_option maxHeartbeats 4000000 in
set_option maxRecDepth 100000 in
theorem Delete_any (w : World) (base : Nat) (v : Value) (l : List Val) (i : Nat) (hi : i < l.length) (h : w.ownsRow base 100 2 v l.length (l.flatMap valC)) :
    Calls Tryz.prog 293 #[v, .int .i64 i, .int .i64 ((i : Int) + 1)] w fun e w' =>
      ∃ v', e = .returned v' ∧ w'.ownsRow base 100 2 v' (l.eraseIdx i).length ((l.eraseIdx i).flatMap valC) ∧ Kept (fun k => v.ownBlock = some k) w w' := by
  obtain ⟨i0, hi0, hz0, hz1, hz2⟩ := info_parts infoVal
  obtain ⟨g, cap, cur, rfl, hbase, hlt, hh, h1, h2, h3, h4⟩ := own_some h (by omega)
  obtain ⟨n, hn⟩ : ∃ n, l.length = n := ⟨_, rfl⟩
  rw [hn] at hi h1 h4 ⊢
  have hcl : (l.flatMap valC).length = n * 2 := by rw [flat_length (enc := valC) (k := 2) (fun _ => rfl), hn]
  obtain ⟨news, hnews⟩ : ∃ news, (l.drop (i + 1)).flatMap valC = news := ⟨_, rfl⟩
  have hlen : news.length = (n - (i + 1)) * 2 := by rw [← hnews, flat_length (enc := valC) (k := 2) (fun _ => rfl), List.length_drop, hn]
  have hcell : ∀ (W : World), W.heap[g]? = some (.cells cur 100 (0, 0)) → ∀ j u, (l.flatMap valC)[j]? = some u → W.cell? ⟨g, j, none⟩ = some u ∧ W.frozen? ⟨g, j, none⟩ = false := fun W hW j u hu => own_cell hW h4 hu
  have hall : ∀ j, j < n * 2 → ∃ u, (l.flatMap valC)[j]? = some u := fun j hj => ⟨_, List.getElem?_eq_getElem (by omega)⟩
  unfold maxLen at h2
  obtain ⟨A, hA, hsrc⟩ : ∃ A : Addr, (if cap = i + 1 then some (⟨g, 0, none⟩ : Addr) else some ⟨g, (i + 1) * 2, none⟩) = some A ∧ Hid (∀ t u, news[t]? = some u → w.drew.cell? (A.add t) = some u) := by
    by_cases hc : cap = i + 1
    · refine ⟨⟨g, 0, none⟩, by simp [hc], fun t u hu => ?_⟩
      have : news.length = 0 := by rw [hlen]; have : n = i + 1 := by omega
                                   rw [this]; simp
      rw [List.length_eq_zero_iff.1 this] at hu
      simp at hu
    · refine ⟨⟨g, (i + 1) * 2, none⟩, by simp [hc], fun t u hu => ?_⟩
      rw [add_none]
      refine (hcell w.drew hh _ u ?_).1
      rw [← hnews, ← flat_drop, List.getElem?_drop] at hu
      exact hu
  have s1 : Hid (news.length = (n - (i + 1)) * 2) := hlen
  have s2 : Hid (∀ u ∈ news, u.oneCell' = true) := Lib.hid (show ∀ u ∈ news, u.oneCell' = true from hnews ▸ valC_one _)
  have s3 : Hid (∀ t, t < news.length → (w.drew.cell? ⟨g, 0 + i * 2 + t, none⟩).isSome = true ∧ w.drew.frozen? ⟨g, 0 + i * 2 + t, none⟩ = false) := fun t ht => by
    obtain ⟨u, hu⟩ := hall (0 + i * 2 + t) (by rw [hlen] at ht; omega)
    have := hcell w.drew hh _ u hu
    exact ⟨by rw [this.1]; rfl, this.2⟩
  obtain ⟨cur1, e1, e2, e3⟩ := heap_setCells_row (g := g) (t := 100) news (0 + i * 2) (w := w.drew) hh (by rw [hlen, h3]; omega)
  have k1 : Kept (fun k => k = g) w (w.drew.setCells g (0 + i * 2) news) := ((Kept.refl (fun k => k = g) w).drew).trans (kept_setCells g news _ _)
  generalize hW1 : w.drew.setCells g (0 + i * 2) news = W1 at e1 k1
  have hW : Hid (w.drew.setCells g (0 + i * 2) news = W1) := hW1
  have hcl1 : ∀ ty c, (Builtin.clear_ #[22] ty #[.slice (some ⟨g, (i + (n - (i + 1))) * 2, none⟩) (n - (i + (n - (i + 1)))) c]).run Tryz.prog W1 = .ok (.tuple #[]) (W1.setCells g ((n - 1) * 2) [.int .u64 0, .int .i64 0]) := fun ty c => by
    rw [show i + (n - (i + 1)) = n - 1 by omega, show n - (n - 1) = 1 by omega]
    exact clear_one W1 g _ c ty (fun j hj => by
      have hs : (n - 1) * 2 + j < cur1.size := by rw [e2, h3]; omega
      exact ⟨by simp [World.cell?, e1, hs], by simp [World.frozen?, e1]⟩)
  have HX := Lib.hid (And.intro e1 (And.intro e2 (And.intro e3 (And.intro k1 (And.intro hlen (And.intro h4 (And.intro hnews (And.intro hn h3))))))))
  have hic : i ≤ cap := by omega
  have hi1c : (i : Int) + 1 ≤ (cap : Int) := by omega
  have hi1n : (i : Int) + 1 ≤ (n : Int) := by omega
  have hi10 : (0 : Int) ≤ (i : Int) + 1 := by omega
  have hn1 : n - (i + 1) + i = n - 1 := by omega
  have hHH := Lib.hid hh
  clear e1 e2 e3 k1 hlen h4 hnews hcell hall hcl hh hW1 h hn hlt h3
  go_enter Tryz.func293, Tryz.ntmps293
  go_wp2_with fail
  go_region_law (refine step_append_room rfl (.tmp 22) (.tmp 25) 22 rfl 100 i0 2 Tryz.underlying22 hi0 hz1 g 0 i cap (by simp [Act.eval, Act.put]) A (n - (i + 1)) (cap - (i + 1)) news (by simp [Act.eval, Act.put]) s1.out hsrc.out s2.out (by omega) s3.out ?_; rw [hW.out])
  go_wp2_with fail
  go_ret
  obtain ⟨e1, e2, e3, k1, hlen, h4, hnews, hn, h3⟩ := HX.out
  obtain ⟨cur2, f1, f2, f3⟩ := heap_setCells_row (g := g) (t := 100) [.int .u64 0, .int .i64 0] ((n - 1) * 2) e1 (by show (n - 1) * 2 + 2 ≤ cur1.size; rw [e2, h3]; omega)
  have hel : (l.eraseIdx i).length = n - 1 := by rw [List.length_eraseIdx_of_lt (by omega), hn]
  refine ⟨_, rfl, ⟨by rw [flat_length (enc := valC) (k := 2) (fun _ => rfl)], .inr ⟨g, cap, cur2, by rw [hel]; show Value.slice _ (i + (n - (i + 1))) cap = _; rw [show i + (n - (i + 1)) = n - 1 by omega], hbase, f1, by rw [hel]; omega, by unfold maxLen; exact h2, by rw [f2, e2, h3], ?_⟩⟩, ?_⟩
  · rw [hel, f3, e3]
    have hc2 : cur.toList.length = cap * 2 := by rw [Array.length_toList, h3]
    rw [Nat.zero_add, List.append_assoc, List.take_append_of_le_length (by simp [hlen, hc2]; omega), List.take_take, Nat.min_self]
    rw [List.take_append_of_le_length (by simp [hlen, hc2]; omega), List.take_of_length_le (by simp [hlen, hc2]; omega)]
    rw [List.eraseIdx_eq_take_drop_succ, List.flatMap_append, hnews]
    congr 1
    rw [← flat_take, ← h4, List.take_take, Nat.min_eq_left (by omega)]
  · have hkk : Kept (fun k => k = g) w (W1.setCells g ((n - 1) * 2) [.int .u64 0, .int .i64 0]) := k1.trans (kept_setCells g _ _ _)
    exact hkk.weaken (fun k _ hk => by rw [hk]; rfl)
end Go.Proofs.YtlaahjcdbdipdaaGreatDoor
