/- The document's bank in memory: a list of amounts behind a pointer; what it reads. -/
import Derived.Test.YtjghnfnlhmhmkaaDoorRefText
import Derived.Test.YtjghnfnlhmhmkaaDoorScript
import Derived.Deep.AppendLies
namespace Go.Proofs.YtjghnfnlhmhmkaaDoor
open Go Go.RowKit Go.MapKept Go.ChangeMaps

/-- An amount's cells. -/
def encAm (x : (BA × BA) × Nat) : List Value := [.string x.1.1, .string x.1.2, u64V x.2]
/-- A slice that reads as a list of amounts. -/
def ReadsAm (w : World) (v : Value) (L : List ((BA × BA) × Nat)) : Prop :=
  ∃ a cap, v = .slice a L.length cap ∧ L.length ≤ 1000000 ∧ ∀ i x, L[i]? = some x → ∃ g, a = some ⟨g, 0, none⟩ ∧ g < w.heap.size ∧ w.cell? ⟨g, i * 3, none⟩ = some (.string x.1.1) ∧ w.cell? ⟨g, i * 3 + 1, none⟩ = some (.string x.1.2) ∧ w.cell? ⟨g, i * 3 + 2, none⟩ = some (u64V x.2)
theorem readsAm_of_own {w : World} {base : Nat} {v : Value} {M : List ((BA × BA) × Nat)} (h : w.ownsRow base 65 3 v M.length (M.flatMap encAm)) (hl : M.length ≤ 1000000) : ReadsAm w v M := by
  by_cases h0 : M.length = 0
  · have hM : M = [] := List.eq_nil_of_length_eq_zero h0
    subst hM
    rcases h.2 with ⟨rfl, _⟩ | ⟨g, cap, cur, rfl, _⟩
    · exact ⟨none, 0, rfl, by simp, by simp⟩
    · exact ⟨some ⟨g, 0, none⟩, cap, rfl, by simp, by simp⟩
  · obtain ⟨g, cap, cur, rfl, hbase, hlt, hh, h1, h2, h3, h4⟩ := own_some h (by omega)
    have hat : ∀ i x, M[i]? = some x → ∀ j, j < 3 → (M.flatMap encAm)[i * 3 + j]? = (encAm x)[j]? := fun i x hx j hj => by
      have := flat_at (enc := encAm) (k := 3) (fun _ => rfl) M i j hj
      rw [hx] at this; simpa using this
    refine ⟨some ⟨g, 0, none⟩, cap, rfl, hl, fun i x hx => ⟨g, rfl, hlt, ?_, ?_, ?_⟩⟩
    · exact (own_cell hh h4 (j := i * 3) (by simpa [encAm] using hat i x hx 0 (by omega))).1
    · exact (own_cell hh h4 (j := i * 3 + 1) (by simpa [encAm] using hat i x hx 1 (by omega))).1
    · exact (own_cell hh h4 (j := i * 3 + 2) (by simpa [encAm] using hat i x hx 2 (by omega))).1
theorem ReadsAm.kept {w w' : World} {v : Value} {L : List ((BA × BA) × Nat)} {S : Nat → Prop} (h : ReadsAm w v L) (hk : Kept S w w') (hS : ∀ k, v.ownBlock = some k → ¬ S k) : ReadsAm w' v L := by
  obtain ⟨a, cap, rfl, hl, h⟩ := h
  refine ⟨a, cap, rfl, hl, fun i x hx => ?_⟩
  obtain ⟨g, rfl, hlt, h1, h2, h3⟩ := h i x hx
  have hg := hS g rfl
  exact ⟨g, rfl, Nat.lt_of_lt_of_le hlt hk.size, (hk.cell (p := ⟨g, _, none⟩) hlt hg).trans h1, (hk.cell (p := ⟨g, _, none⟩) hlt hg).trans h2, (hk.cell (p := ⟨g, _, none⟩) hlt hg).trans h3⟩
/-- The document's bank, in memory. -/
structure RefIs (w : World) (q : Nat) (v : Value) (L : List ((BA × BA) × Nat)) : Prop where
  cells : w.heap[q]? = some (.cells #[v] 44 (0, 0))
  reads : ReadsAm w v L
  apart : v.ownBlock ≠ some q
theorem RefIs.c0 {w : World} {q : Nat} {v : Value} {L : List ((BA × BA) × Nat)} (h : RefIs w q v L) : w.cell? ⟨q, 0, none⟩ = some v := by simp [World.cell?, h.cells]
theorem RefIs.lt {w : World} {q : Nat} {v : Value} {L : List ((BA × BA) × Nat)} (h : RefIs w q v L) : q < w.heap.size := (Array.getElem?_eq_some_iff.1 h.cells).1
theorem RefIs.kept {S : Nat → Prop} {w w' : World} {q : Nat} {v : Value} {L : List ((BA × BA) × Nat)} (h : RefIs w q v L) (hk : Kept S w w') (h1 : ¬ S q) (h2 : ∀ k, v.ownBlock = some k → ¬ S k) : RefIs w' q v L :=
  ⟨(hk.block q h.lt h1).trans h.cells, h.reads.kept hk h2, h.apart⟩
theorem RefIs.still {w w' : World} {q : Nat} {v : Value} {L : List ((BA × BA) × Nat)} (h : RefIs w q v L) (hk : Kept Nowhere w w') : RefIs w' q v L := h.kept hk id (fun _ _ => id)
theorem beq_yes {x y : BA} (h : x = y) : (x.toList == y.toList) = true := by rw [bytes_beq_iff]; simpa using h
theorem beq_no {x y : BA} (h : ¬ x = y) : (x.toList == y.toList) = false := by rw [bytes_beq_iff]; simpa using h
set_option maxRecDepth 100000 in
set_option maxHeartbeats 1600000 in
theorem RefBalance_any (w : World) (q : Nat) (v : Value) (L : List ((BA × BA) × Nat)) (a d : BA) (h : RefIs w q v L) (hn : (L.map Prod.fst).Nodup) :
    Calls Tryd.prog 22 #[ptr q, .string a, .string d] w fun e w' => e = .returned (u64V (balOf L a d)) ∧ w = w' := by
  have hc0 := h.c0
  obtain ⟨ad, cap, rfl, hmax, hv⟩ := h.reads
  obtain ⟨n, hln⟩ : ∃ n, n = L.length := ⟨_, rfl⟩
  rw [← hln] at hmax hc0
  have HNE := Lib.hid hln
  have HV := Lib.hid hv
  obtain ⟨r, hr⟩ : ∃ r, balOf L a d = r := ⟨_, rfl⟩
  rw [hr]
  have HR := Lib.hid hr
  have HN := Lib.hid hn
  clear hln hv hr h hn
  go_enter Tryd.func22, Tryd.ntmps22
  go_wp2_with fail
  go_loopw [7] (fun i wr => ∃ k : Nat, k ≤ n ∧ i = .int .i64 k ∧ wr = w ∧ Hid (∀ j x, j < k → L[j]? = some x → x.1 ≠ (a, d))) (fun i _ => n - (intOf i).toNat)
  case atStart => exact ⟨0, Nat.zero_le _, rfl, rfl, fun _ _ h => absurd h (Nat.not_lt_zero _)⟩
  case round =>
    obtain ⟨k, hk, rfl, rfl, HK⟩ := hrel
    by_cases hlt : k < n
    · obtain ⟨x, hx⟩ : ∃ x, L[k]? = some x := ⟨_, List.getElem?_eq_getElem (by rw [← HNE.out]; exact hlt)⟩
      obtain ⟨⟨xa, xd⟩, xn⟩ := x
      obtain ⟨g, rfl, hg, c0, c1, c2⟩ := HV.out k _ hx
      simp only at c0 c1 c2
      have HX := Lib.hid hx
      have hk0 : (0 : Int) ≤ (k : Int) := Int.natCast_nonneg _
      clear hx hg
      by_cases e1 : xa = a
      · by_cases e2 : xd = d
        · have b1 := beq_yes e1
          have b2 := beq_yes e2
          have hxr : r = xn := by
            have := (mlook_iff HN.out).2 (List.mem_of_getElem? HX.out)
            rw [e1, e2] at this
            rw [← HR.out]; unfold balOf; rw [this]; rfl
          subst hxr
          clear e1 e2
          go_wp2_with fail
          go_ret
          exact ⟨rfl, rfl⟩
        · have b1 := beq_yes e1
          have b2 := beq_no e2
          have HN1 : Hid (∀ j x, j < k + 1 → L[j]? = some x → x.1 ≠ (a, d)) := fun j x hj hjx he => by
            by_cases hjk : j < k
            · exact HK.out j x hjk hjx he
            · obtain rfl : j = k := by omega
              rw [HX.out] at hjx
              cases hjx
              exact e2 (Prod.mk.inj he).2
          clear e1 e2
          go_wp2_with fail
          exact ⟨⟨k + 1, by omega, by go_num, by trivial, HN1⟩, by simp [intOf]; omega⟩
      · have b1 := beq_no e1
        have HN1 : Hid (∀ j x, j < k + 1 → L[j]? = some x → x.1 ≠ (a, d)) := fun j x hj hjx he => by
          by_cases hjk : j < k
          · exact HK.out j x hjk hjx he
          · obtain rfl : j = k := by omega
            rw [HX.out] at hjx
            cases hjx
            exact e1 (Prod.mk.inj he).1
        clear e1
        go_wp2_with fail
        exact ⟨⟨k + 1, by omega, by go_num, by trivial, HN1⟩, by simp [intOf]; omega⟩
    · have HF : Hid (r = 0) := by
        rw [← HR.out]
        unfold balOf
        cases hm : mlook L (a, d) with
        | none => rfl
        | some u =>
          obtain ⟨j, hj⟩ := List.mem_iff_getElem?.1 (mlook_mem hm)
          have hjl := (List.getElem?_eq_some_iff.1 hj).1
          exact absurd rfl (HK.out j _ (by have := HNE.out; omega) hj)
      have hF := HF.out
      subst hF
      go_wp2_with fail
      go_ret
      exact ⟨rfl, rfl⟩
theorem total_take_le (L : List ((BA × BA) × Nat)) (d : BA) (k : Nat) : total (L.take k) d ≤ total L d := by
  have e : total L d = total (L.take k) d + total (L.drop k) d := by
    unfold total
    conv => lhs; rw [← List.take_append_drop k L]
    rw [List.filter_append, List.map_append, List.sum_append]
  omega
theorem total_snoc (L : List ((BA × BA) × Nat)) (x : (BA × BA) × Nat) (d : BA) : total (L ++ [x]) d = total L d + (if x.1.2 = d then x.2 else 0) := by
  unfold total
  rw [List.filter_append, List.map_append, List.sum_append]
  by_cases h : x.1.2 = d <;> simp [h]
theorem takeSnoc {α : Type} {L : List α} {k : Nat} {x : α} (h : L[k]? = some x) : L.take (k + 1) = L.take k ++ [x] := by rw [List.take_add_one, h]; rfl
set_option maxRecDepth 100000 in
set_option maxHeartbeats 1600000 in
theorem RefSupply_any (w : World) (q : Nat) (v : Value) (L : List ((BA × BA) × Nat)) (d : BA) (h : RefIs w q v L) (ht : total L d ≤ top64) :
    Calls Tryd.prog 23 #[ptr q, .string d] w fun e w' => e = .returned (u64V (total L d)) ∧ w = w' := by
  have hc0 := h.c0
  obtain ⟨ad, cap, rfl, hmax, hv⟩ := h.reads
  obtain ⟨n, hln⟩ : ∃ n, n = L.length := ⟨_, rfl⟩
  rw [← hln] at hmax hc0
  have HNE := Lib.hid hln
  have HV := Lib.hid hv
  obtain ⟨r, hr⟩ : ∃ r, total L d = r := ⟨_, rfl⟩
  rw [hr] at ht ⊢
  unfold top64 at ht
  have HR := Lib.hid hr
  clear hln hv hr h
  go_enter Tryd.func23, Tryd.ntmps23
  go_wp2_with fail
  go_loopw [5, 6] (fun s i wr => ∃ k t : Nat, k ≤ n ∧ i = .int .i64 k ∧ s = u64V t ∧ wr = w ∧ Hid (total (L.take k) d = t)) (fun _ i _ => n - (intOf i).toNat)
  case atStart => exact ⟨0, 0, Nat.zero_le _, rfl, rfl, rfl, rfl⟩
  case round =>
    obtain ⟨k, t, hk, rfl, rfl, rfl, HK⟩ := hrel
    by_cases hlt : k < n
    · obtain ⟨x, hx⟩ : ∃ x, L[k]? = some x := ⟨_, List.getElem?_eq_getElem (by rw [← HNE.out]; exact hlt)⟩
      obtain ⟨⟨xa, xd⟩, xn⟩ := x
      obtain ⟨g, rfl, hg, c0, c1, c2⟩ := HV.out k _ hx
      simp only at c0 c1 c2
      have hs := total_snoc (L.take k) ((xa, xd), xn) d
      rw [← takeSnoc hx, HK.out] at hs
      simp only at hs
      have hle : total (L.take (k + 1)) d ≤ r := by rw [← HR.out]; exact total_take_le L d (k + 1)
      have hk0 : (0 : Int) ≤ (k : Int) := Int.natCast_nonneg _
      clear hx hg
      by_cases e1 : xd = d
      · have b1 := beq_yes e1
        rw [if_pos e1] at hs
        have hb : t + xn ≤ 18446744073709551615 := by omega
        have HS := Lib.hid hs
        have hw := u64_add (a := t) (b := xn) hb
        clear e1 hs hle
        go_wp2_with fail
        exact ⟨⟨k + 1, t + xn, by omega, by go_num, by trivial, by trivial, HS.out⟩, by simp [intOf]; omega⟩
      · have b1 := beq_no e1
        rw [if_neg e1, Nat.add_zero] at hs
        have HS := Lib.hid hs
        clear e1 hs hle
        go_wp2_with fail
        exact ⟨⟨k + 1, t, by omega, by go_num, by trivial, by trivial, HS.out⟩, by simp [intOf]; omega⟩
    · have hF : t = r := by
        have e := HK.out
        rw [List.take_of_length_le (by rw [← HNE.out]; omega), HR.out] at e
        exact e.symm
      subst hF
      go_wp2_with fail
      go_ret
      exact ⟨rfl, rfl⟩
end Go.Proofs.YtjghnfnlhmhmkaaDoor
