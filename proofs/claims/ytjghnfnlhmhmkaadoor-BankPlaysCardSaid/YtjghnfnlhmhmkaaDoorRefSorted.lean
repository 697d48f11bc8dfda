/- The document's Sorted: an insertion sort. -/
import Derived.Test.YtjghnfnlhmhmkaaDoorRow
import Derived.Deep.Cut
namespace Go.Proofs.YtjghnfnlhmhmkaaDoor
open Go Go.RowKit Go.MapKept Go.ChangeMaps

def SortedPost (w : World) (L : List (BA × BA)) (e : Ending) (w' : World) : Prop :=
  ∃ v M, e = .returned v ∧ (M.Perm L ∧ ByKeys M) ∧ ReadsEnt w' v M ∧ (∀ k, v.ownBlock = some k → w.heap.size ≤ k) ∧ Kept Nowhere w w'
theorem flat_snocE (L : List (BA × BA)) (x : BA × BA) : (L ++ [x]).flatMap encEnt = L.flatMap encEnt ++ encEnt x := by simp
theorem row_done {w : World} {base g cap k j : Nat} {D : List (BA × BA)} {x : BA × BA} (h : RowAt w g cap (ins D x j)) (hb : base ≤ g) (hc : cap ≤ maxLen) (hD : D.length = k) :
    w.ownsRow base 56 2 (.slice (some ⟨g, 0, none⟩) (k + 1) cap) (ins D x j).length ((ins D x j).flatMap encEnt) := by
  have := h.own hb hc
  rw [ins_length, hD] at this ⊢
  exact this
set_option maxRecDepth 100000 in
set_option maxHeartbeats 6400000 in
theorem RefSorted_any (w : World) (v : Value) (L : List (BA × BA)) (h : ReadsEnt w v L) (hll : L.length ≤ 100000) :
    Calls Tryd.prog 36 #[v] w (SortedPost w L) := by
  obtain ⟨i0, hi0, hz0, hz1, hz2⟩ := info_parts infoEntry
  obtain ⟨ad, cap, rfl, hmax, hv⟩ := h
  obtain ⟨n, hln⟩ : ∃ n, n = L.length := ⟨_, rfl⟩
  rw [← hln] at hmax hll ⊢
  have HNE := Lib.hid hln
  have HV := Lib.hid hv
  clear hln hv hmax
  go_enter Tryd.func36, Tryd.ntmps36
  go_wp2_with fail
  go_loopw [3, 4] (fun o i wr => ∃ (k : Nat) (D : List (BA × BA)), k ≤ n ∧ i = .int .i64 k ∧ D.length = k ∧ wr.ownsRow w.heap.size 56 2 o D.length (D.flatMap encEnt) ∧ Hid (D.Perm (L.take k) ∧ D.Pairwise leE ∧ Kept Nowhere w wr)) (fun _ i _ => n - (intOf i).toNat)
  case atStart => exact ⟨0, [], Nat.zero_le _, rfl, rfl, ⟨rfl, Or.inl ⟨rfl, rfl⟩⟩, by simp, by simp, Kept.refl _ _⟩
  case round =>
    obtain ⟨k, D, hk, rfl, hD, hown, HD⟩ := hrel
    by_cases hlt : k < n
    · obtain ⟨x, hx⟩ : ∃ x, L[k]? = some x := ⟨_, List.getElem?_eq_getElem (by rw [← HNE.out]; exact hlt)⟩
      obtain ⟨g, rfl, hg, c0, c1⟩ := HV.out k _ hx
      have q0 := (HD.out.2.2.cell (p := ⟨g, _, none⟩) hg id).trans c0
      have q1 := (HD.out.2.2.cell (p := ⟨g, _, none⟩) hg id).trans c1
      have HX := Lib.hid (show (D ++ [x]).Perm (L.take (k + 1)) by rw [takeSnoc hx]; exact HD.out.1.append_right _)
      have hk0 : (0 : Int) ≤ (k : Int) := Int.natCast_nonneg _
      clear hx hg c0 c1
      go_wp2_with (at_builtin; refine wpList_append_lies _ rfl _ _ _ rfl w.heap.size 56 i0 _ 2 32 Tryd.underlying30 hi0 hz0 hz1 hz2 rfl (by omega) u3 D.length (D.flatMap encEnt) (by rfl) (hown.alloc _) ⟨wr.heap.size, 0, none⟩ 1 1 (encEnt x) rfl rfl (World.news_of_block (cs := #[.string x.1, .string x.2]) (t := 56) (fr := (0, 0)) (heap_alloc_new wr _)) (by simp [Value.oneCell', encEnt]) (by omega) (by unfold maxLen; omega) (by omega) (by have := HD.out.2.2.size; simp; omega) (wr.heap.size + 1) (by simp) ?_; intro g1 cap1 w5 hown5 hgrow hat hlt5)
      have hk5 : Kept Nowhere w w5 := HD.out.2.2.andThen (((Kept.refl _ wr).alloc _).trans (Kept.of_grown hgrow)) (fun i hi e => by have := own_apart hown e; omega)
      rw [← flat_snocE] at hown5
      obtain ⟨hrow, hgb, hcap⟩ := RowAt.of_own hown5 (by simp) (by omega)
      rw [← ins_end] at hrow
      have H5 := Lib.hid (And.intro hrow (And.intro hgb (And.intro hcap hk5)))
      clear hrow hgb hcap hk5 hown5 hgrow hat hlt5 hown q0 q1
      go_wp2_with fail
      go_loopw [5] (fun j w2 => ∃ (m : Nat), m ≤ D.length ∧ j = .int .i64 m ∧ Hid (RowAt w2 g1 cap1 (ins D x m) ∧ (∀ b ∈ D.drop m, leE x b) ∧ Kept Nowhere w w2)) (fun j _ => (intOf j).toNat)
      case atStart => exact ⟨D.length, Nat.le_refl _, by go_num, H5.out.1, by simp, H5.out.2.2.2⟩
      case round =>
        obtain ⟨m, hm, rfl, HM⟩ := hrel
        cases m
        case zero =>
          rw [show ((0 : Nat) : Int) = 0 from rfl]
          have HE := Lib.hid (And.intro (fun nq => row_done (base := w.heap.size) (HM.out.1.kept ((Kept.refl Nowhere wr).drewN nq) id) H5.out.2.1 H5.out.2.2.1 hD) (fun nq => HM.out.2.2.drewN nq))
          have HP := Lib.hid (And.intro ((ins_perm D x 0).trans ((List.perm_append_singleton x D).symm.trans HX.out)) (ins_sorted HD.out.2.1 HM.out.2.1 (.inl rfl) hm))
          go_wp2_with fail
          go_quiet (fail)
          go_wp2_with fail
          exact ⟨⟨k + 1, ins D x 0, by omega, by go_num, by rw [ins_length, hD], HE.out.1 _, HP.out.1, HP.out.2, HE.out.2 _⟩, by simp [intOf]; omega⟩
        case succ m =>
          obtain ⟨y, hy⟩ : ∃ y, D[m]? = some y := ⟨_, List.getElem?_eq_getElem (by omega)⟩
          have r1 := (HM.out.1.cells (ins_at x hm))
          have r2 := (HM.out.1.cells (ins_before x hy))
          obtain ⟨r1a, r1b⟩ := r1
          obtain ⟨r2a, r2b⟩ := r2
          have HY := Lib.hid hy
          clear hy
          have hm0 : (0 : Int) ≤ (m : Int) := Int.natCast_nonneg _
          have hpos : (0 : Int) < ((m + 1 : Nat) : Int) := by omega
          by_cases hxy : x.1.toList < y.1.toList
          · have hd : Op.bytesLess x.1.toList y.1.toList = true := by rw [bytesLess_eq]; simpa using hxy
            have HUP := Lib.hid (show ∀ b ∈ D.drop m, leE x b from fun b hb => by
              rw [List.drop_eq_getElem_cons (by omega)] at hb
              rcases List.mem_cons.1 hb with rfl | hb
              · have e := (List.getElem?_eq_some_iff.1 HY.out).2
                rw [e]; exact leE_of_lt hxy
              · exact HM.out.2.1 b hb)
            clear hxy
            go_wp2_with fail
            go_quiet (fail)
            generalize hwq : wr.drewN nq = wq
            have hkq : Kept Nowhere wr wq := hwq ▸ (Kept.refl Nowhere wr).drewN nq
            have HQ := Lib.hid (And.intro (HM.out.1.kept hkq id) (HM.out.2.2.trans hkq))
            clear hwq hkq r1a r1b r2a r2b
            obtain ⟨r1a, r1b⟩ := HQ.out.1.cells (ins_at x hm)
            obtain ⟨r2a, r2b⟩ := HQ.out.1.cells (ins_before x HY.out)
            have hE1 : m + 1 < (ins D x (m + 1)).length := by rw [ins_length]; omega
            have hE0 : m < (ins D x (m + 1)).length := by rw [ins_length]; omega
            have HI := Lib.hid (And.intro hE1 hE0)
            clear hE1 hE0
            go_upto_region 10 with fail
            generalize hW9 : wq.alloc (.cells #[.string x.1, .string x.2] 56) = w9
            have hk9 : Kept Nowhere wq w9 := hW9 ▸ (Kept.refl Nowhere wq).alloc _
            have hb1 : w9.cell? ⟨wq.heap.size, 0, none⟩ = some (.string x.1) := hW9 ▸ cell_of_alloc _ _ _ 0 _ rfl
            have hb2 : w9.cell? ⟨wq.heap.size, 1, none⟩ = some (.string x.2) := hW9 ▸ cell_of_alloc _ _ _ 1 _ rfl
            have hb0 : wq.heap.size < w9.heap.size := World.block_lt_of_cell? w9 _ hb1
            have hne : g1 ≠ wq.heap.size := Nat.ne_of_lt HQ.out.1.lt
            have H9 := Lib.hid (And.intro (HQ.out.1.kept hk9 id) (HQ.out.2.trans hk9))
            clear hW9 hk9 r1a r1b r2a r2b
            generalize wq.heap.size = bx at hb1 hb2 hb0 hne ⊢
            have HB := Lib.hid (And.intro hb1 (And.intro hb2 (And.intro hb0 hne)))
            clear hb1 hb2 hb0 hne
            obtain ⟨r1a, r1b⟩ := H9.out.1.cells (ins_at x hm)
            obtain ⟨r2a, r2b⟩ := H9.out.1.cells (ins_before x HY.out)
            have f1 := H9.out.1.free ((m + 1) * 2)
            obtain ⟨f2, f3⟩ := H9.out.1.half (ins_at x hm) (.string y.1)
            go_upto_region 11 with fail
            generalize hW10 : (w9.setCell ⟨g1, (m + 1) * 2, none⟩ (.string y.1)).setCell ⟨g1, (m + 1) * 2 + 1, none⟩ (.string y.2) = w10
            have hrow : RowAt w10 g1 cap1 ((ins D x (m + 1)).set (m + 1) y) := hW10 ▸ H9.out.1.put (m + 1) y HI.out.1
            have hk10 : Kept (fun j => j = g1) w9 w10 := hW10 ▸ put_kept _ _ _ _ _
            have hy0 : ((ins D x (m + 1)).set (m + 1) y)[m]? = some y := by rw [List.getElem?_set_ne (by omega)]; exact ins_before x HY.out
            have hb1 := (hk10.cell (p := ⟨bx, 0, none⟩) HB.out.2.2.1 (fun e => HB.out.2.2.2 e.symm)).trans HB.out.1
            have hb2 := (hk10.cell (p := ⟨bx, 1, none⟩) HB.out.2.2.1 (fun e => HB.out.2.2.2 e.symm)).trans HB.out.2.1
            have hfin : RowAt ((w10.setCell ⟨g1, m * 2, none⟩ (.string x.1)).setCell ⟨g1, m * 2 + 1, none⟩ (.string x.2)) g1 cap1 (ins D x m) := by
              have := hrow.put m x (by rw [List.length_set]; exact HI.out.2)
              rwa [ins_swap x HY.out] at this
            have hkw : Kept Nowhere w ((w10.setCell ⟨g1, m * 2, none⟩ (.string x.1)).setCell ⟨g1, m * 2 + 1, none⟩ (.string x.2)) :=
              H9.out.2.andThen (hk10.trans (put_kept _ _ _ _ _)) (fun i hi e => by have := H5.out.2.1; omega)
            have HF := Lib.hid (And.intro hfin hkw)
            clear hW10 hk10 hfin hkw r1a r1b r2a r2b f1 f2 f3
            obtain ⟨r2a, r2b⟩ := hrow.cells hy0
            have f1 := hrow.free (m * 2)
            obtain ⟨f2, f3⟩ := hrow.half hy0 (.string x.1)
            clear hrow hy0
            go_wp2_with fail
            exact ⟨⟨m, by omega, by go_num, HF.out.1, HUP.out, HF.out.2⟩, by simp [intOf]⟩
          · have hd : Op.bytesLess x.1.toList y.1.toList = false := by rw [bytesLess_eq]; simpa using hxy
            have HE := Lib.hid (And.intro (fun nq => row_done (base := w.heap.size) (HM.out.1.kept ((Kept.refl Nowhere wr).drewN nq) id) H5.out.2.1 H5.out.2.2.1 hD) (fun nq => HM.out.2.2.drewN nq))
            have HP := Lib.hid (And.intro ((ins_perm D x (m + 1)).trans ((List.perm_append_singleton x D).symm.trans HX.out)) (ins_sorted HD.out.2.1 HM.out.2.1 (.inr ⟨y, HY.out, hxy⟩) hm))
            clear hxy
            go_wp2_with fail
            go_quiet (fail)
            go_wp2_with fail
            exact ⟨⟨k + 1, ins D x (m + 1), by omega, by go_num, by rw [ins_length, hD], HE.out.1 _, HP.out.1, HP.out.2, HE.out.2 _⟩, by simp [intOf]; omega⟩
    · have HP := Lib.hid (show D.Perm L by have := HD.out.1; rwa [List.take_of_length_le (by rw [← HNE.out]; omega)] at this)
      have HO := Lib.hid hown
      clear hown
      go_wp2_with fail
      go_ret
      exact ⟨_, D, rfl, ⟨HP.out, (byKeys_iff D).2 HD.out.2.1⟩, reads_of_own HO.out (by omega), fun j hj => own_apart HO.out hj, HD.out.2.2⟩
end Go.Proofs.YtjghnfnlhmhmkaaDoor
