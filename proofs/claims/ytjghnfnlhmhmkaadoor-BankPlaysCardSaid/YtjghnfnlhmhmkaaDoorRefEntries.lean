/- The document's Entries. -/
import Derived.Test.YtjghnfnlhmhmkaaDoorRefCopy
import Derived.Deep.RegionHeld3
import Derived.Deep.AppendLies
namespace Go.Proofs.YtjghnfnlhmhmkaaDoor
open Go Go.RowKit Go.MapKept Go.ChangeMaps

def RefEntsPost (w : World) (L : List ((BA × BA) × Nat)) (e : Ending) (w' : World) : Prop :=
  ∃ v M, e = .returned v ∧ (M.Perm (L.map entOf) ∧ ByKeys M) ∧ ReadsEnt w' v M ∧ (∀ k, v.ownBlock = some k → w.heap.size ≤ k) ∧ Kept Nowhere w w'
theorem RefDigits_kept (w : World) (n : Nat) (hn : n ≤ top64) : Calls Tryd.prog 35 #[u64V n] w fun e w' => e = .returned (.string (digitsOf n)) ∧ Kept Nowhere w w' :=
  (RefDigits_any w n hn).mono fun _ _ ⟨he, hw⟩ => ⟨he, hw ▸ Kept.refl _ _⟩
set_option maxRecDepth 100000 in
set_option maxHeartbeats 6400000 in
theorem RefEntries_any (w : World) (q B : Nat) (L : List ((BA × BA) × Nat)) (h : RefHas w q B L) (hll : L.length ≤ 90000) (hAn : ∀ x ∈ L, x.1.1.size ≤ 16 ∧ x.1.2.size ≤ 40 ∧ x.2 ≤ 18446744073709551615) :
    Calls Tryd.prog 21 #[ptr q] w (RefEntsPost w L) := by
  obtain ⟨i0, hi0, hz0, hz1, hz2⟩ := info_parts infoEntry
  obtain ⟨v, hr, _⟩ := h
  have hq := hr.lt
  have hc0 := hr.c0
  obtain ⟨ad, cap, rfl, hmax, hv⟩ := hr.reads
  obtain ⟨n, hln⟩ : ∃ n, n = L.length := ⟨_, rfl⟩
  rw [← hln] at hc0 hll
  have HC0 := Lib.hid hc0
  have HNE := Lib.hid hln
  have HV := Lib.hid hv
  have HAN := Lib.hid hAn
  clear hc0 hln hv hAn hr hmax
  go_enter Tryd.func21, Tryd.ntmps21
  go_wp2_with fail
  go_loopw [3, 4] (fun o i wr => ∃ (k : Nat) (D : List (BA × BA)), k ≤ n ∧ i = .int .i64 k ∧ D.length = k ∧ wr.ownsRow w.heap.size 56 2 o D.length (D.flatMap encEnt) ∧ Hid (D = (L.take k).map entOf ∧ Kept Nowhere w wr)) (fun _ i _ => n - (intOf i).toNat)
  case atStart => exact ⟨0, [], Nat.zero_le _, rfl, rfl, ⟨rfl, Or.inl ⟨rfl, rfl⟩⟩, by simp, Kept.refl _ _⟩
  case round =>
    obtain ⟨k, D, hk, rfl, hD, hown, HD⟩ := hrel
    have hc0 := (HD.out.2.cell (p := ⟨q, 0, none⟩) hq id).trans HC0.out
    by_cases hlt : k < n
    · obtain ⟨x, hx⟩ : ∃ x, L[k]? = some x := ⟨_, List.getElem?_eq_getElem (by rw [← HNE.out]; exact hlt)⟩
      obtain ⟨hacc, hden, hn64⟩ := HAN.out x (List.mem_of_getElem? hx)
      obtain ⟨⟨acc, den⟩, xn⟩ := x
      obtain ⟨g, rfl, hg, c0, c1, c2⟩ := HV.out k _ hx
      simp only at c0 c1 c2 hacc hden hn64
      have q0 := (HD.out.2.cell (p := ⟨g, _, none⟩) hg id).trans c0
      have q1 := (HD.out.2.cell (p := ⟨g, _, none⟩) hg id).trans c1
      have q2 := (HD.out.2.cell (p := ⟨g, _, none⟩) hg id).trans c2
      have HS := Lib.hid (show ∀ W, Kept (fun j => w.heap.size ≤ j) wr.drew W → W.cell? ⟨q, 0, none⟩ = some (.slice (some ⟨g, 0, none⟩) n cap) ∧ W.cell? ⟨g, k * 3, none⟩ = some (.string acc) ∧ W.cell? ⟨g, k * 3 + 1, none⟩ = some (.string den) ∧ W.cell? ⟨g, k * 3 + 2, none⟩ = some (u64V xn) from fun W hk => by
        have hqw : q < wr.drew.heap.size := Nat.lt_of_lt_of_le hq HD.out.2.size
        have hgw : g < wr.drew.heap.size := Nat.lt_of_lt_of_le hg HD.out.2.size
        exact ⟨(hk.cell (p := ⟨q, 0, none⟩) hqw (by simp; omega)).trans hc0, (hk.cell (p := ⟨g, _, none⟩) hgw (by simp; omega)).trans q0, (hk.cell (p := ⟨g, _, none⟩) hgw (by simp; omega)).trans q1, (hk.cell (p := ⟨g, _, none⟩) hgw (by simp; omega)).trans q2⟩)
      have HOB := Lib.hid (show ∀ j, u3.ownBlock = some j → w.heap.size ≤ j from fun j hj => own_apart hown hj)
      have HOW := Lib.hid (show ∀ w4, Kept Nowhere wr.drew w4 → w4.ownsRow w.heap.size 56 2 u3 D.length (D.flatMap encEnt) ∧ w.heap.size ≤ w4.heap.size ∧ Kept Nowhere w w4 from fun w4 hk4 =>
        ⟨ownsRow_kept hown ((Kept.refl Nowhere wr).drew.trans hk4) (fun _ _ => id), Nat.le_trans HD.out.2.size hk4.size, HD.out.2.drew.trans hk4⟩)
      have HX := Lib.hid (show D ++ [entOf ((acc, den), xn)] = (L.take (k + 1)).map entOf by rw [takeSnoc hx, List.map_append, ← HD.out.1]; rfl)
      have hF := Lib.hid (fun W => RefDigits_kept W xn hn64)
      have hs1 : ∀ W, (Op.stringOp .add ⟨#[98, 97, 110, 107, 47]⟩ den).run Tryd.prog W = .ok (.string (⟨#[98, 97, 110, 107, 47]⟩ ++ den)) W := fun W => run_string_add_sum W _ _ (by show 5 + den.size ≤ _; omega)
      have hs2 : ∀ W, (Op.stringOp .add (⟨#[98, 97, 110, 107, 47]⟩ ++ den) ⟨#[47]⟩).run Tryd.prog W = .ok (.string (⟨#[98, 97, 110, 107, 47]⟩ ++ den ++ ⟨#[47]⟩)) W := fun W => run_string_add_sum W _ _ (by rw [ByteArray.size_append]; show 5 + den.size + 1 ≤ _; omega)
      have hs3 : ∀ W, (Op.stringOp .add (⟨#[98, 97, 110, 107, 47]⟩ ++ den ++ ⟨#[47]⟩) acc).run Tryd.prog W = .ok (.string (entK (acc, den))) W := fun W => run_string_add_sum W _ _ (by rw [ByteArray.size_append, ByteArray.size_append]; show 5 + den.size + 1 + acc.size ≤ _; omega)
      have hk0 : (0 : Int) ≤ (k : Int) := Int.natCast_nonneg _
      have hkn : (k : Int) < (n : Int) := by omega
      clear hx hg c0 c1 c2 hown q0 q1 q2
      have hh := HS.out wr.drew (Kept.refl _ _)
      obtain ⟨h1, h2, h3, h4⟩ := hh
      go_wp2_with fail
      go_region_held3 (fun W => W.cell? ⟨q, 0, none⟩ = some (.slice (some ⟨g, 0, none⟩) n cap) ∧ W.cell? ⟨g, k * 3, none⟩ = some (.string acc) ∧ W.cell? ⟨g, k * 3 + 1, none⟩ = some (.string den) ∧ W.cell? ⟨g, k * 3 + 2, none⟩ = some (u64V xn))
        (first
          | exact HS.out _ (Kept.refl _ _)
          | exact HS.out _ (hkF.weaken (fun _ _ h => h.elim))
          | exact HS.out _ ((hkF.weaken (fun _ _ h => h.elim)).alloc _)
          | exact HS.out _ (((hkF.weaken (fun _ _ h => h.elim)).alloc _).trans ((Kept.of_grown hgrow).weaken (fun j _ hj => HOB.out j hj))))
        (first
          | (go_at_call 35; refine (hF.out _).mono ?_; rintro e w4 ⟨rfl, hkF⟩)
          | (refine step_append_lies _ (by rfl) _ _ _ (by rfl) w.heap.size 56 i0 _ 2 32 Tryd.underlying30 hi0 hz0 hz1 hz2 rfl (by omega) u3 D.length (D.flatMap encEnt) (by rfl) ((HOW.out _ hkF).1.alloc _) ⟨w4.heap.size, 0, none⟩ 1 1 (encEnt (entOf ((acc, den), xn))) (by rfl) (by rfl) (World.news_of_block (cs := #[.string (entK (acc, den)), .string (digitsOf xn)]) (t := 56) (fr := (0, 0)) (heap_alloc_new w4 _)) (by simp [Value.oneCell', encEnt]) (by omega) (by unfold maxLen; omega) (by omega) (by have := (HOW.out _ hkF).2.1; simp; omega) (w4.heap.size + 1) (by simp) ?_; intro g1 cap1 w5 hown5 hgrow hat hlt5))
      have hk5 : Kept Nowhere w w5 := (HOW.out _ hkF).2.2.andThen (((Kept.refl _ w4).alloc _).trans (Kept.of_grown hgrow)) (fun i hi e => by have := HOB.out i e; omega)
      have hln : D.length + 1 = (D ++ [entOf ((acc, den), xn)]).length := by simp
      rw [← flat_snocE] at hown5
      have HO := Lib.hid (show w5.ownsRow w.heap.size 56 2 (.slice (some ⟨g1, 0, none⟩) (k + 1) cap1) (D ++ [entOf ((acc, den), xn)]).length ((D ++ [entOf ((acc, den), xn)]).flatMap encEnt) by rw [← hln]; rw [hD] at hown5 ⊢; exact hown5)
      have HK := Lib.hid hk5
      clear hown5 hgrow hat hlt5 hk5 hkF hln
      go_wp2_with fail
      exact ⟨⟨k + 1, D ++ [entOf ((acc, den), xn)], by omega, by go_num, by simp [hD], HO.out, HX.out, HK.out⟩, by simp [intOf]; omega⟩
    · have HP := Lib.hid (show D = L.map entOf by have := HD.out.1; rwa [List.take_of_length_le (by rw [← HNE.out]; omega)] at this)
      have HSO := Lib.hid (RefSorted_any wr u3 D (reads_of_own hown (by omega)) (by omega))
      have hlw : w.heap.size ≤ wr.heap.size := HD.out.2.size
      clear hown
      go_wp2_with fail
      refine HSO.out.mono ?_
      rintro e w6 ⟨v6, M, rfl, hM, hr6, ho6, hk6⟩
      have H6 := Lib.hid (And.intro hM (And.intro hr6 (And.intro ho6 hk6)))
      clear hM hr6 ho6 hk6
      go_wp2_with fail
      go_ret
      exact ⟨_, M, rfl, ⟨by rw [← HP.out]; exact H6.out.1.1, H6.out.1.2⟩, H6.out.2.1, fun j hj => Nat.le_trans hlw (H6.out.2.2.1 j hj), HD.out.2.trans H6.out.2.2.2⟩
end Go.Proofs.YtjghnfnlhmhmkaaDoor
