/- The document's bank: set. -/
import Derived.Test.YtjghnfnlhmhmkaaDoorRefBank
namespace Go.Proofs.YtjghnfnlhmhmkaaDoor
open Go Go.RowKit Go.MapKept Go.ChangeMaps

/-- What set makes of the list. -/
def setL (L : List ((BA × BA) × Nat)) (p : BA × BA) (n : Nat) : List ((BA × BA) × Nat) := mdel L p ++ (if n = 0 then [] else [(p, n)])
theorem infoAm : (Tryd.prog.info? 65).map (fun i => (i.zero, i.size, i.bytes)) = some (some (.agg #[.string ⟨#[]⟩, .string ⟨#[]⟩, .int .u64 0]), 3, 40) := by kernel_rfl
theorem own_apart {w : World} {base e size n : Nat} {v : Value} {xs : List Value} (h : w.ownsRow base e size v n xs) {k : Nat} (hk : v.ownBlock = some k) : base ≤ k := by
  rcases h.2 with ⟨rfl, _⟩ | ⟨g, cap, cur, rfl, hg, _⟩
  · cases hk
  · cases hk; exact hg
theorem mdel_snoc (L : List ((BA × BA) × Nat)) (x : (BA × BA) × Nat) (p : BA × BA) : mdel (L ++ [x]) p = mdel L p ++ (if x.1 = p then [] else [x]) := by
  unfold mdel
  rw [List.filter_append]
  by_cases h : x.1 = p <;> simp [h]
theorem flat_snoc (L : List ((BA × BA) × Nat)) (x : (BA × BA) × Nat) : (L ++ [x]).flatMap encAm = L.flatMap encAm ++ encAm x := by simp
/-- What set leaves. -/
def SetPost (w : World) (q : Nat) (L : List ((BA × BA) × Nat)) (e : Ending) (w' : World) : Prop :=
  ∃ v', e = .returned (.tuple #[]) ∧ RefIs w' q v' L ∧ Kept (fun k => k = q) w w' ∧ (∀ k, v'.ownBlock = some k → w.heap.size ≤ k)
set_option maxRecDepth 100000 in
set_option maxHeartbeats 3200000 in
theorem RefSet_any (w : World) (q : Nat) (v : Value) (L : List ((BA × BA) × Nat)) (a d : BA) (m : Nat) (h : RefIs w q v L) (hll : L.length ≤ 100000) (hm : m ≤ top64) :
    Calls Tryd.prog 45 #[ptr q, .string a, .string d, u64V m] w (SetPost w q (setL L (a, d) m)) := by
  obtain ⟨i0, hi0, hz0, hz1, hz2⟩ := info_parts infoAm
  have HH := Lib.hid h
  have hq := h.lt
  obtain ⟨ad, cap, rfl, hmax, hv⟩ := h.reads
  obtain ⟨n, hln⟩ : ∃ n, n = L.length := ⟨_, rfl⟩
  rw [← hln] at hmax hll
  have hc0 := h.c0
  rw [← hln] at hc0
  have HC0 := Lib.hid hc0
  have HNE := Lib.hid hln
  have HV := Lib.hid hv
  unfold top64 at hm
  clear hln hv h hc0 hmax
  go_enter Tryd.func45, Tryd.ntmps45
  go_wp2_with fail
  go_loopw [8, 9] (fun o i wr => ∃ (k : Nat) (D : List ((BA × BA) × Nat)), k ≤ n ∧ i = .int .i64 k ∧ D.length ≤ k ∧ Hid (D = mdel (L.take k) (a, d)) ∧ wr.ownsRow w.heap.size 65 3 o D.length (D.flatMap encAm) ∧ Hid (Kept Nowhere w wr)) (fun _ i _ => n - (intOf i).toNat)
  case atStart => exact ⟨0, [], Nat.zero_le _, rfl, Nat.le_refl _, rfl, ⟨rfl, Or.inl ⟨rfl, rfl⟩⟩, Kept.refl _ _⟩
  case round =>
    obtain ⟨k, D, hk, rfl, hD, HD, hown, HK⟩ := hrel
    have hc0 := (HK.out.cell (p := ⟨q, 0, none⟩) hq id).trans HC0.out
    by_cases hlt : k < n
    · obtain ⟨x, hx⟩ : ∃ x, L[k]? = some x := ⟨_, List.getElem?_eq_getElem (by rw [← HNE.out]; exact hlt)⟩
      obtain ⟨⟨xa, xd⟩, xn⟩ := x
      obtain ⟨g, rfl, hg, c0, c1, c2⟩ := HV.out k _ hx
      simp only at c0 c1 c2
      have q0 := (HK.out.cell (p := ⟨g, _, none⟩) hg id).trans c0
      have q1 := (HK.out.cell (p := ⟨g, _, none⟩) hg id).trans c1
      have q2 := (HK.out.cell (p := ⟨g, _, none⟩) hg id).trans c2
      have HDS := Lib.hid (show mdel (L.take (k + 1)) (a, d) = D ++ (if (xa, xd) = (a, d) then [] else [((xa, xd), xn)]) by rw [takeSnoc hx, mdel_snoc, HD.out])
      have hk0 : (0 : Int) ≤ (k : Int) := Int.natCast_nonneg _
      clear hx hg c0 c1 c2
      by_cases e0 : (xa, xd) = (a, d)
      · have HN1 := Lib.hid (show D = mdel (L.take (k + 1)) (a, d) by rw [HDS.out, if_pos e0, List.append_nil])
        have b1 := beq_yes (Prod.mk.inj e0).1
        have b2 := beq_yes (Prod.mk.inj e0).2
        clear e0
        go_wp2_with fail
        exact ⟨⟨k + 1, D, by omega, by go_num, by omega, HN1, hown, HK⟩, by simp [intOf]; omega⟩
      · have HN1 := Lib.hid (show D ++ [((xa, xd), xn)] = mdel (L.take (k + 1)) (a, d) by rw [HDS.out, if_neg e0])
        have HE1 := Lib.hid e0
        by_cases e1 : xa = a
        · have e2 : ¬ xd = d := fun e => HE1.out (by rw [e1, e])
          have b1 := beq_yes e1
          have b2 := beq_no e2
          clear e0 e1 e2
          go_wp2_with (at_builtin; refine wpList_append_lies _ rfl _ _ _ rfl w.heap.size 65 i0 _ 3 40 Tryd.underlying42 hi0 hz0 hz1 hz2 rfl (by omega) u8 D.length (D.flatMap encAm) rfl (hown.alloc _) ⟨wr.heap.size, 0, none⟩ 1 1 (encAm ((xa, xd), xn)) rfl rfl (World.news_of_block (cs := #[.string xa, .string xd, u64V xn]) (t := 65) (fr := (0, 0)) (heap_alloc_new wr _)) (by simp [Value.oneCell', encAm]) (by omega) (by unfold maxLen; omega) (by omega) (by have := HK.out.size; simp; omega) (wr.heap.size + 1) (by simp) ?_; intro g1 cap1 w5 hown5 hgrow hat hlt5)
          have HE := Lib.hid (HK.out.andThen (((Kept.refl _ wr).alloc _).trans (Kept.of_grown hgrow)) (fun i hi e => by have := own_apart hown e; omega))
          have hln : D.length + 1 = (D ++ [((xa, xd), xn)]).length := by simp
          rw [← flat_snoc] at hown5
          have HO := Lib.hid (show w5.ownsRow w.heap.size 65 3 (.slice (some ⟨g1, 0, none⟩) (D.length + 1) cap1) (D ++ [((xa, xd), xn)]).length ((D ++ [((xa, xd), xn)]).flatMap encAm) by rw [← hln]; exact hown5)
          clear hown5 hgrow hat hlt5 hown
          go_wp2_with fail
          exact ⟨⟨k + 1, D ++ [((xa, xd), xn)], by omega, by go_num, by rw [List.length_append]; simp; omega, HN1, HO.out, HE⟩, by simp [intOf]; omega⟩
        · have b1 := beq_no e1
          clear e0 e1
          go_wp2_with (at_builtin; refine wpList_append_lies _ rfl _ _ _ rfl w.heap.size 65 i0 _ 3 40 Tryd.underlying42 hi0 hz0 hz1 hz2 rfl (by omega) u8 D.length (D.flatMap encAm) rfl (hown.alloc _) ⟨wr.heap.size, 0, none⟩ 1 1 (encAm ((xa, xd), xn)) rfl rfl (World.news_of_block (cs := #[.string xa, .string xd, u64V xn]) (t := 65) (fr := (0, 0)) (heap_alloc_new wr _)) (by simp [Value.oneCell', encAm]) (by omega) (by unfold maxLen; omega) (by omega) (by have := HK.out.size; simp; omega) (wr.heap.size + 1) (by simp) ?_; intro g1 cap1 w5 hown5 hgrow hat hlt5)
          have HE := Lib.hid (HK.out.andThen (((Kept.refl _ wr).alloc _).trans (Kept.of_grown hgrow)) (fun i hi e => by have := own_apart hown e; omega))
          have hln : D.length + 1 = (D ++ [((xa, xd), xn)]).length := by simp
          rw [← flat_snoc] at hown5
          have HO := Lib.hid (show w5.ownsRow w.heap.size 65 3 (.slice (some ⟨g1, 0, none⟩) (D.length + 1) cap1) (D ++ [((xa, xd), xn)]).length ((D ++ [((xa, xd), xn)]).flatMap encAm) by rw [← hln]; exact hown5)
          clear hown5 hgrow hat hlt5 hown
          go_wp2_with fail
          exact ⟨⟨k + 1, D ++ [((xa, xd), xn)], by omega, by go_num, by rw [List.length_append]; simp; omega, HN1, HO.out, HE⟩, by simp [intOf]; omega⟩
    · have HF : Hid (D = mdel L (a, d)) := by
        have := HD.out
        rwa [List.take_of_length_le (by rw [← HNE.out]; omega)] at this
      have HFR : Hid (∀ (x : (BA × BA) × Nat) (W : World) (S : Nat → Prop), Kept S (wr.alloc (.cells (encAm x).toArray 65)) W → (∀ i, S i → w.heap.size ≤ i) → W.cell? ⟨q, 0, none⟩ = some (.slice ad n cap) ∧ W.frozen? ⟨q, 0, none⟩ = false) := fun x W S hkW hS => by
        have h1 : Kept (fun k => w.heap.size ≤ k) w W := (HK.out.alloc _).andThen hkW (fun i _ hi => absurd (hS i hi) (by omega)) |>.weaken (fun _ _ h => h.elim)
        have h2 := (h1.block q hq (by omega)).trans HH.out.cells
        simp [World.cell?, World.frozen?, h2, HNE.out]
      have HFW := Lib.hid (show wr.heap[q]? = some (.cells #[.slice ad n cap] 44 (0, 0)) by rw [(HK.out.block q hq id).trans HH.out.cells, HNE.out])
      have HNOT : Hid (∀ k, u8.ownBlock = some k → w.heap.size ≤ k) := fun k hk' => own_apart hown hk'
      by_cases h0 : 0 < m
      · have HN1 := Lib.hid (show D ++ [((a, d), m)] = setL L (a, d) m by unfold setL; rw [← HF.out, if_neg (by omega)])
        go_wp2_with (at_builtin; refine wpList_append_lies _ rfl _ _ _ rfl w.heap.size 65 i0 _ 3 40 Tryd.underlying42 hi0 hz0 hz1 hz2 rfl (by omega) u8 D.length (D.flatMap encAm) (by rfl) (hown.alloc _) ⟨wr.heap.size, 0, none⟩ 1 1 (encAm ((a, d), m)) rfl rfl (World.news_of_block (cs := #[.string a, .string d, u64V m]) (t := 65) (fr := (0, 0)) (heap_alloc_new wr _)) (by simp [Value.oneCell', encAm]) (by omega) (by unfold maxLen; omega) (by omega) (by have := HK.out.size; simp; omega) (wr.heap.size + 1) (by simp) ?_; intro g1 cap1 w5 hown5 hgrow hat hlt5; have hfr := HFR.out ((a, d), m) w5 _ (Kept.of_grown hgrow) HNOT.out; obtain ⟨hfr1, hfr2⟩ := hfr)
        have HE := Lib.hid (HK.out.andThen (((Kept.refl _ wr).alloc _).trans (Kept.of_grown hgrow)) (fun i hi e => by have := own_apart hown e; omega))
        have hln : D.length + 1 = (D ++ [((a, d), m)]).length := by simp
        rw [← flat_snoc] at hown5
        have HO := Lib.hid hown5
        have HLN := Lib.hid hln
        clear hown5 hgrow hat hlt5 hown hln
        first | go_end0 | refine bodyPost_ret (results_none rfl _ _ _) rfl ?_
        have hr : ReadsAm w5 (.slice (some ⟨g1, 0, none⟩) (D.length + 1) cap1) (D ++ [((a, d), m)]) := readsAm_of_own (base := w.heap.size) (by rw [← HLN.out]; exact HO.out) (by rw [← HLN.out]; omega)
        have hg1 : w.heap.size ≤ g1 := own_apart (k := g1) HO.out rfl
        rw [← HN1.out]
        refine ⟨_, rfl, ⟨one_setCell (v := .slice ad n cap) ?_, hr.kept (S := fun k => k = q) (Kept.setCell (S := fun k => k = q) (Kept.refl _ w5) (p := ⟨q, 0, none⟩) (fun _ => rfl) _) (fun k hk' e => ?_), fun e => ?_⟩, (HE.out.weaken (T := fun k => k = q) (fun _ _ h => h.elim)).setCell (p := ⟨q, 0, none⟩) (fun _ => rfl) _, fun k hk' => ?_⟩
        · exact (HE.out.block q hq id).trans (by rw [HH.out.cells, HNE.out])
        · have h1 : g1 = k := Option.some.inj hk'
          omega
        · have h1 : g1 = q := Option.some.inj e
          omega
        · have h1 : g1 = k := Option.some.inj hk'
          omega
      · have HN1 := Lib.hid (show D = setL L (a, d) m by unfold setL; rw [← HF.out, if_pos (by omega), List.append_nil])
        have hfr1 : wr.frozen? ⟨q, 0, none⟩ = false := by simp [World.frozen?, HFW.out]
        obtain ⟨oa, ol, oc, rfl⟩ : ∃ oa ol oc, u8 = .slice oa ol oc := by
          rcases hown.2 with ⟨rfl, _⟩ | ⟨g, cap, cur, rfl, _⟩ <;> exact ⟨_, _, _, rfl⟩
        go_wp2_with fail
        first | go_end0 | refine bodyPost_ret (results_none rfl _ _ _) rfl ?_
        have hr : ReadsAm wr (.slice oa ol oc) D := readsAm_of_own hown (by omega)
        rw [← HN1.out]
        refine ⟨_, rfl, ⟨one_setCell HFW.out, hr.kept (S := fun k => k = q) (Kept.setCell (S := fun k => k = q) (Kept.refl _ wr) (p := ⟨q, 0, none⟩) (fun _ => rfl) _) (fun k hk' e => ?_), fun e => ?_⟩, (HK.out.weaken (T := fun k => k = q) (fun _ _ h => h.elim)).setCell (p := ⟨q, 0, none⟩) (fun _ => rfl) _, HNOT.out⟩
        · have := HNOT.out k hk'; omega
        · have := HNOT.out q e; omega
end Go.Proofs.YtjghnfnlhmhmkaaDoor
