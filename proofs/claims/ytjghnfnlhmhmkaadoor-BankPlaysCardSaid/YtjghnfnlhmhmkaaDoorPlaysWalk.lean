/- The walk of BankPlays. -/
import Derived.Test.YtjghnfnlhmhmkaaDoorRefEntries
import Derived.Test.YtjghnfnlhmhmkaaDoorCopy
import Derived.Test.YtjghnfnlhmhmkaaDoorAlive
import Derived.Deep.RegionHeld3
import Derived.Deep.RegionWith
namespace Go.Proofs.YtjghnfnlhmhmkaaDoor
open Go Go.RowKit Go.MapKept Go.ChangeMaps

/-- All that stands behind a step of a round. -/
structure PlAt (w W : World) (p m1 m2 q B p' n1 n2 q' bx : Nat) (x : ActS) (b c : BS) (L K : List ((BA × BA) × Nat)) : Prop where
  has : Has W p m1 m2 b
  ref : RefHas W q B L
  hasO : Has W p' n1 n2 c
  refO : RefHas W q' B K
  act : ActAt W bx x
  kept : Kept Nowhere w W
  size : B ≤ W.heap.size
structure PlApart (w : World) (p m1 m2 q B p' n1 n2 q' bx : Nat) : Prop where
  low : w.heap.size ≤ m1 ∧ w.heap.size ≤ m2 ∧ w.heap.size ≤ q
  below : p < B ∧ m1 < B ∧ m2 < B ∧ q < B ∧ p ≠ q ∧ m1 ≠ q ∧ m2 ≠ q
  above : B ≤ p' ∧ B ≤ n1 ∧ B ≤ n2 ∧ B ≤ q' ∧ B ≤ bx
section
variable {w W W' : World} {p m1 m2 q B p' n1 n2 q' bx : Nat} {x : ActS} {b c b' : BS} {L K L' : List ((BA × BA) × Nat)}
theorem PlAt.still (h : PlAt w W p m1 m2 q B p' n1 n2 q' bx x b c L K) (hk : Kept Nowhere W W') : PlAt w W' p m1 m2 q B p' n1 n2 q' bx x b c L K :=
  ⟨h.has.still hk, h.ref.still hk, h.hasO.still hk, h.refO.still hk, h.act.kept hk id, h.kept.trans hk, Nat.le_trans h.size hk.size⟩
theorem PlAt.acted (h : PlAt w W p m1 m2 q B p' n1 n2 q' bx x b c L K) (ha : PlApart w p m1 m2 q B p' n1 n2 q' bx) (hb : Has W' p m1 m2 b') (hk : Kept (Maps2 m1 m2) W W') : PlAt w W' p m1 m2 q B p' n1 n2 q' bx x b' c L K := by
  obtain ⟨h1, h2, h3⟩ := ha
  have hno : ∀ j, B ≤ j → ¬ Maps2 m1 m2 j := fun j hj hm => by unfold Maps2 at hm; omega
  exact ⟨hb, h.ref.kept hk (fun hm => by unfold Maps2 at hm; omega) hno, BankIs.kept h.hasO hk (hno _ h3.1) (hno _ h3.2.1) (hno _ h3.2.2.1), h.refO.kept hk (hno _ h3.2.2.2.1) hno, h.act.kept hk (hno _ h3.2.2.2.2),
    h.kept.andThen hk (fun i hi hm => by unfold Maps2 at hm; omega), Nat.le_trans h.size hk.size⟩
theorem PlAt.told (h : PlAt w W p m1 m2 q B p' n1 n2 q' bx x b c L K) (ha : PlApart w p m1 m2 q B p' n1 n2 q' bx) (hb : RefHas W' q B L') (hk : Kept (fun k => k = q) W W') : PlAt w W' p m1 m2 q B p' n1 n2 q' bx x b c L' K := by
  obtain ⟨h1, h2, h3⟩ := ha
  exact ⟨BankIs.kept h.has hk (by omega) (by omega) (by omega), hb, BankIs.kept h.hasO hk (by omega) (by omega) (by omega), h.refO.kept hk (by omega) (fun j hj hm => by omega), h.act.kept hk (by omega),
    h.kept.andThen hk (fun i hi hm => by omega), Nat.le_trans h.size hk.size⟩
end
theorem ref_new (w : World) (B : Nat) : RefHas (w.alloc (.cells #[.slice none 0 0] 44)) w.heap.size B [] :=
  ⟨.slice none 0 0, ⟨heap_alloc_new w _, ⟨none, 0, rfl, by simp, by simp⟩, fun e => by cases e⟩, fun _ h => by cases h⟩
theorem perm_fits {b : BS} {L : List ((BA × BA) × Nat)} (hp : L.Perm b.A) (hg : Good b) : ∀ x ∈ L, x.1.1.size ≤ 16 ∧ x.1.2.size ≤ 40 ∧ x.2 ≤ 18446744073709551615 := fun x hx => hg.fits x (hp.mem_iff.1 hx)
theorem both_ents {b : BS} {L : List ((BA × BA) × Nat)} {M N : List (BA × BA)} (hp : L.Perm b.A) (hg : Good b) (hM : M.Perm (b.A.map entOf) ∧ ByKeys M) (hN : N.Perm (L.map entOf) ∧ ByKeys N) : M = N :=
  ents_eq hg.nA hg.names hp.symm hM.1 hN.1 hM.2 hN.2
set_option linter.unusedSimpArgs false in
set_option maxRecDepth 100000 in
set_option maxHeartbeats 40000000 in
theorem BankPlays_walk (w : World) (v : Value) (acts : List ActS) (hL : Laid w) (hv : ScriptAt w v acts) :
    Calls Tryd.prog 6 #[v] w fun e w' => e = .returned (.bool true) ∧ Kept Nowhere w w' := by
  obtain ⟨ad, cap, rfl, hmax, hv⟩ := hv
  obtain ⟨n, hn⟩ : ∃ n, n = acts.length := ⟨_, rfl⟩
  rw [← hn] at hmax ⊢
  unfold maxLen at hmax
  have HNE := Lib.hid hn
  have HV := Lib.hid hv
  have HN := Lib.hid (NewH_any w hL)
  have HL := Lib.hid hL
  clear hn hv hL
  go_enter Tryd.func6, Tryd.ntmps6
  go_wp2_with fail
  refine HN.out.mono ?_
  rintro e w1 ⟨p, m1, m2, rfl, hb1, hk1, hm1, hm2, hpp⟩
  have H1 := Lib.hid (And.intro hb1 hk1)
  have HM := Lib.hid (And.intro hm1 (And.intro hm2 hb1.lt))
  clear hb1 hk1 hm1 hm2 hpp
  go_wp2_with fail
  have hk2 : Kept Nowhere w1 (w1.alloc (.cells #[.slice none 0 0] 44)) := (Kept.refl Nowhere w1).alloc _
  have hz2 : (w1.alloc (.cells #[.slice none 0 0] 44)).heap.size = w1.heap.size + 1 := by simp
  have H2 := Lib.hid (And.intro (ref_new w1 (w1.heap.size + 1)) (And.intro (H1.out.1.still hk2) (And.intro (H1.out.2.trans hk2) hz2)))
  clear hk2 hz2
  refine (alive_any _ (HL.out.still H2.out.2.2.1)).mono ?_
  rintro e w3 ⟨rfl, hk3⟩
  have H3 := Lib.hid (And.intro (H2.out.1.still hk3) (And.intro (H2.out.2.1.still hk3) (And.intro (H2.out.2.2.1.trans hk3) (show w1.heap.size + 1 ≤ w3.heap.size by rw [← H2.out.2.2.2]; exact hk3.size))))
  clear hk3
  go_wp2_with fail
  go_loopw [5] (fun i wr => ∃ (k : Nat) (b : BS) (L : List ((BA × BA) × Nat)), k ≤ 60 ∧ i = .int .i64 k ∧ Hid (Good b ∧ L.Perm b.A ∧ b.A.length ≤ 2 * k ∧ Has wr p m1 m2 b ∧ RefHas wr w1.heap.size (w1.heap.size + 1) L ∧ Kept Nowhere w wr ∧ w1.heap.size + 1 ≤ wr.heap.size)) (fun i _ => 60 - (intOf i).toNat)
  case atStart => exact ⟨0, BS.none, [], by omega, rfl, good_none, by simp [BS.none], by simp [BS.none], H3.out.2.1, H3.out.1, H3.out.2.2.1, H3.out.2.2.2⟩
  case round =>
    obtain ⟨k, b, L, hk60, rfl, HB⟩ := hrel
    by_cases hlt : k < n ∧ k < 60
    · obtain ⟨hlt, h60⟩ := hlt
      obtain ⟨x, hx⟩ : ∃ x, acts[k]? = some x := ⟨_, List.getElem?_eq_getElem (by rw [← HNE.out]; exact hlt)⟩
      obtain ⟨hfit, g, o, rfl, hg, c0, c1, c2, c3, c4⟩ := HV.out k x hx
      have q0 := (HB.out.2.2.2.2.2.1.cell (p := ⟨g, _, none⟩) hg id).trans c0
      have q1 := (HB.out.2.2.2.2.2.1.cell (p := ⟨g, _, none⟩) hg id).trans c1
      have q2 := (HB.out.2.2.2.2.2.1.cell (p := ⟨g, _, none⟩) hg id).trans c2
      have q3 := (HB.out.2.2.2.2.2.1.cell (p := ⟨g, _, none⟩) hg id).trans c3
      have q4 := (HB.out.2.2.2.2.2.1.cell (p := ⟨g, _, none⟩) hg id).trans c4
      obtain ⟨kd, f, t, d, m⟩ := x
      have hadd := add_none g o (k * 5)
      obtain ⟨⟨er, b'⟩, hr⟩ : ∃ r, actF b ⟨kd, f, t, d, m⟩ = r := ⟨_, rfl⟩
      have hg' : Good b' := by have := good_act HB.out.1 ⟨kd, f, t, d, m⟩; rw [hr] at this; exact this
      have hlen' : b'.A.length ≤ 2 * (k + 1) := by
        have := length_act b ⟨kd, f, t, d, m⟩
        rw [hr] at this
        have h2 := HB.out.2.2.1
        simp only at this; omega
      have hll : b.A.length ≤ 120 ∧ b'.A.length ≤ 122 := ⟨by have := HB.out.2.2.1; omega, by omega⟩
      have hLl : L.length ≤ 120 := by have := HB.out.2.1.length_eq; omega
      have HD := Lib.hid (fun (W : World) (h : Has W p m1 m2 b) (hW : Laid W) => do_any W p m1 m2 b ⟨kd, f, t, d, m⟩ h HB.out.1 hW hfit)
      have HT := Lib.hid (fun (W : World) (h : RefHas W w1.heap.size (w1.heap.size + 1) L) (hW : w1.heap.size + 1 ≤ W.heap.size) => told_any W w1.heap.size (w1.heap.size + 1) L b ⟨kd, f, t, d, m⟩ h HB.out.2.1 HB.out.1 hW (by omega) hfit)
      rw [hr] at HD HT
      have HQ := Lib.hid (And.intro hg' (And.intro hlen' (And.intro hll hLl)))
      obtain ⟨q, hq⟩ : ∃ q, q = w1.heap.size := ⟨_, rfl⟩
      obtain ⟨B, hB⟩ : ∃ B, B = w1.heap.size + 1 := ⟨_, rfl⟩
      have H4 := Lib.hid (show ActAt (wr.alloc (.cells (ActS.cells ⟨kd, f, t, d, m⟩).toArray 28)) wr.heap.size ⟨kd, f, t, d, m⟩ ∧ Kept Nowhere wr (wr.alloc (.cells (ActS.cells ⟨kd, f, t, d, m⟩).toArray 28)) from ⟨act_new wr _ _, (Kept.refl Nowhere wr).alloc _⟩)
      have hlow : w1.heap.size < B ∧ p < w1.heap.size ∧ m1 < w1.heap.size ∧ m2 < w1.heap.size ∧ w.heap.size ≤ m1 ∧ w.heap.size ≤ m2 ∧ w.heap.size ≤ w1.heap.size := ⟨by omega, HM.out.2.2.1, HM.out.2.2.2.1, HM.out.2.2.2.2, HM.out.1, HM.out.2.1, H1.out.2.size⟩
      have hBr : B ≤ wr.heap.size := by rw [hB]; exact HB.out.2.2.2.2.2.2
      have HLO := Lib.hid (And.intro hlow (And.intro hBr (And.intro hq hB)))
      clear hr hg' hlen' hll hLl hg c0 c1 c2 c3 c4 hfit hx hlow hBr hq hB
      obtain ⟨e0, e1, e2, e3, e4⟩ := H4.out.1
      go_wp2_with fail
      refine (Copy_any _ p m1 m2 b (HB.out.2.2.2.1.still H4.out.2)).mono ?_
      rintro e w4 ⟨p', n1, n2, rfl, hb4, hp4, hn41, hn42, hk4⟩
      have H5 := Lib.hid (And.intro (H4.out.1.kept hk4 id) (And.intro hb4 (And.intro (H4.out.2.trans hk4) (And.intro hp4 (And.intro hn41 hn42)))))
      clear hb4 hp4 hn41 hn42 hk4 e0 e1 e2 e3 e4
      have hc4 := H5.out.1
      obtain ⟨e0, e1, e2, e3, e4⟩ := hc4
      go_wp2_with fail
      refine (RefCopy_any w4 w1.heap.size (w1.heap.size + 1) L (HB.out.2.2.2.2.1.still H5.out.2.2.1) (Nat.le_trans HB.out.2.2.2.2.2.2 H5.out.2.2.1.size) (Nat.le_trans HQ.out.2.2.2 (by decide))).mono ?_
      rintro e w5 ⟨q', rfl, hr5, hq5, hk5⟩
      have H6 : Hid (PlAt w w5 p m1 m2 w1.heap.size (w1.heap.size + 1) p' n1 n2 q' wr.heap.size ⟨kd, f, t, d, m⟩ b b L L ∧ PlApart w p m1 m2 w1.heap.size (w1.heap.size + 1) p' n1 n2 q' wr.heap.size) := by
        have hl := HLO.out
        have hz := H4.out.2.size
        have hz5 := H5.out.2.2.1.size
        have ha := H5.out.2.2.2
        refine ⟨⟨(HB.out.2.2.2.1.still H5.out.2.2.1).still hk5, (HB.out.2.2.2.2.1.still H5.out.2.2.1).still hk5, H5.out.2.1.still hk5, hr5, H5.out.1.kept hk5 id, (HB.out.2.2.2.2.2.1.trans H5.out.2.2.1).trans hk5, ?_⟩, ⟨⟨by omega, by omega, by omega⟩, ⟨by omega, by omega, by omega, by omega, by omega, by omega, by omega⟩, ⟨by omega, by omega, by omega, by omega, by omega⟩⟩⟩
        have := hk5.size
        omega
      clear hr5 hq5 hk5 e0 e1 e2 e3 e4
      have H6d := Lib.hid (H6.out.1.still (Kept.refl Nowhere w5).drew)
      have hc6 := H6.out.1.act
      obtain ⟨e0, e1, e2, e3, e4⟩ := hc6
      have hcd := H6d.out.act
      obtain ⟨d0, d1, d2, d3, d4⟩ := hcd
      go_wp2_with fail
      refine wp_region_noPanic ?_
      refine wp_region_held_drew (S := fun W => W.cell? ⟨wr.heap.size, 0, none⟩ = some (.int .i64 kd) ∧ W.cell? ⟨wr.heap.size, 1, none⟩ = some (.string f) ∧ W.cell? ⟨wr.heap.size, 2, none⟩ = some (.string t) ∧ W.cell? ⟨wr.heap.size, 3, none⟩ = some (.string d) ∧ W.cell? ⟨wr.heap.size, 4, none⟩ = some (u64V m)) (by kernel_rfl) ⟨d0, d1, d2, d3, d4⟩ (fun hHeld => ?_)
      refine wpAnyH_take (i := 0) (v := ?_) rfl (by kernel_rfl) (by kernel_rfl) (by kernel_rfl) (fun _ _ _ h => h) (Or.inl ⟨by kernel_rfl, ?_⟩) hHeld ?_
      rotate_left 1
      · intro w' hS; (try dsimp only at hS); go_simp; (try with_reducible rfl)
      simp only [List.getElem_toArray, List.getElem_cons_succ, List.getElem_cons_zero, Act.put, List.setIfInBounds_toArray, List.set_cons_zero, List.set_cons_succ]
      refine wpAnyH_take (i := 1) (v := ?_) rfl (by kernel_rfl) (by kernel_rfl) (by kernel_rfl) (fun _ _ _ h => h) (Or.inl ⟨by kernel_rfl, ?_⟩) hHeld ?_
      rotate_left 1
      · intro w' hS; (try dsimp only at hS); go_simp; (try with_reducible rfl)
      simp only [List.getElem_toArray, List.getElem_cons_succ, List.getElem_cons_zero, Act.put, List.setIfInBounds_toArray, List.set_cons_zero, List.set_cons_succ]
      refine wpAnyH_take (i := 2) (v := ?_) rfl (by kernel_rfl) (by kernel_rfl) (by kernel_rfl) (fun _ _ _ h => h) (Or.inl ⟨by kernel_rfl, ?_⟩) hHeld ?_
      rotate_left 1
      · intro w' hS; (try dsimp only at hS); go_simp; (try with_reducible rfl)
      simp only [List.getElem_toArray, List.getElem_cons_succ, List.getElem_cons_zero, Act.put, List.setIfInBounds_toArray, List.set_cons_zero, List.set_cons_succ]
      refine wpAnyH_take (i := 3) (v := ?_) rfl (by kernel_rfl) (by kernel_rfl) (by kernel_rfl) (fun _ _ _ h => h) (Or.inl ⟨by kernel_rfl, ?_⟩) hHeld ?_
      rotate_left 1
      · intro w' hS; (try dsimp only at hS); go_simp; (try with_reducible rfl)
      simp only [List.getElem_toArray, List.getElem_cons_succ, List.getElem_cons_zero, Act.put, List.setIfInBounds_toArray, List.set_cons_zero, List.set_cons_succ]
      refine wpAnyH_take (i := 4) (v := ?_) rfl (by kernel_rfl) (by kernel_rfl) (by kernel_rfl) (fun _ _ _ h => h) (Or.inl ⟨by kernel_rfl, ?_⟩) hHeld ?_
      rotate_left 1
      · intro w' hS; (try dsimp only at hS); go_simp; (try with_reducible rfl)
      simp only [List.getElem_toArray, List.getElem_cons_succ, List.getElem_cons_zero, Act.put, List.setIfInBounds_toArray, List.set_cons_zero, List.set_cons_succ]
      refine wpAnyH_take (i := 6) (v := ?_) rfl (by kernel_rfl) (by kernel_rfl) (by kernel_rfl) (fun _ _ _ h => h) (Or.inl ⟨by kernel_rfl, ?_⟩) hHeld ?_
      rotate_left 1
      · intro w' hS; (try dsimp only at hS); go_simp; (try with_reducible rfl)
      simp only [List.getElem_toArray, List.getElem_cons_succ, List.getElem_cons_zero, Act.put, List.setIfInBounds_toArray, List.set_cons_zero, List.set_cons_succ]
      refine wpAnyH_take (i := 7) (v := ?_) rfl (by kernel_rfl) (by kernel_rfl) (by kernel_rfl) (fun _ _ _ h => h) (Or.inl ⟨by kernel_rfl, ?_⟩) hHeld ?_
      rotate_left 1
      · intro w' hS; (try dsimp only at hS); go_simp; (try with_reducible rfl)
      simp only [List.getElem_toArray, List.getElem_cons_succ, List.getElem_cons_zero, Act.put, List.setIfInBounds_toArray, List.set_cons_zero, List.set_cons_succ]
      refine wpAnyH_ready (rs := [5]) (by kernel_rfl) (by simp) ?_
      refine AllReadyH.cons rfl (fun K hK => ?_) AllReadyH.nil
      go_simp
      refine (HD.out _ H6d.out.has (HL.out.still H6d.out.kept)).mono ?_
      rintro e w6 ⟨rfl, hb6, hk6⟩
      have H7 := Lib.hid (H6d.out.acted H6.out.2 (b' := b') hb6 hk6)
      clear hb6 hk6
      refine hK.out _ _ ?_ (fun hHeld' => ?_)
      · exact ⟨H7.out.act.c0, H7.out.act.c1, H7.out.act.c2, H7.out.act.c3, H7.out.act.c4⟩
      clear hK K hHeld
      have hHeld := hHeld'
      clear hHeld'
      (try simp only [List.getElem_toArray, List.getElem_cons_succ, List.getElem_cons_zero, Act.put, List.setIfInBounds_toArray, List.set_cons_zero, List.set_cons_succ])
      refine wpAnyH_ready (rs := [8]) (by kernel_rfl) (by simp) ?_
      refine AllReadyH.cons rfl (fun K hK => ?_) AllReadyH.nil
      go_simp
      refine (HT.out _ H7.out.ref H7.out.size).mono ?_
      rintro e w7 ⟨L', rfl, hh7, hp7, hk7⟩
      have H8 := Lib.hid (And.intro (H7.out.told H6.out.2 hh7 hk7) hp7)
      clear hh7 hp7 hk7
      refine hK.out _ _ ?_ (fun hHeld' => ?_)
      · exact ⟨H8.out.1.act.c0, H8.out.1.act.c1, H8.out.1.act.c2, H8.out.1.act.c3, H8.out.1.act.c4⟩
      clear hK K hHeld
      have hHeld := hHeld'
      clear hHeld'
      (try simp only [List.getElem_toArray, List.getElem_cons_succ, List.getElem_cons_zero, Act.put, List.setIfInBounds_toArray, List.set_cons_zero, List.set_cons_succ])
      refine wpAnyH_take (i := 9) (v := ?_) rfl (by kernel_rfl) (by kernel_rfl) (by kernel_rfl) (fun _ _ _ h => h) (Or.inl ⟨by kernel_rfl, ?_⟩) hHeld ?_
      rotate_left 1
      · intro w' hS; (try dsimp only at hS); go_simp; (try with_reducible rfl)
      simp only [List.getElem_toArray, List.getElem_cons_succ, List.getElem_cons_zero, Act.put, List.setIfInBounds_toArray, List.set_cons_zero, List.set_cons_succ]
      refine wpAnyH_take (i := 10) (v := ?_) rfl (by kernel_rfl) (by kernel_rfl) (by kernel_rfl) (fun _ _ _ h => h) (Or.inl ⟨by kernel_rfl, ?_⟩) hHeld ?_
      rotate_left 1
      · intro w' hS; (try dsimp only at hS); go_simp; (try with_reducible rfl)
      simp only [List.getElem_toArray, List.getElem_cons_succ, List.getElem_cons_zero, Act.put, List.setIfInBounds_toArray, List.set_cons_zero, List.set_cons_succ]
      refine wpAnyH_done (by kernel_rfl) ?_ _
      refine NoPanic.normal ?_
      clear e0 e1 e2 e3 e4 d0 d1 d2 d3 d4 hHeld
      go_wp2_with fail
      have HLN := Lib.hid (show L'.length ≤ 122 from by have := H8.out.2.length_eq; have h2 := HQ.out.2.2.1.2; exact Nat.le_trans (Nat.le_of_eq this) h2)
      refine (Ents_any w7 p m1 m2 b' H8.out.1.has HQ.out.1 (HL.out.still H8.out.1.kept) (Nat.le_trans HQ.out.2.2.1.2 (by decide))).mono ?_
      rintro e w8 ⟨v1, M1, rfl, hM1, hr1, ho1, hk8⟩
      have H9 := Lib.hid (And.intro (H8.out.1.still hk8) (And.intro hM1 hr1))
      clear hM1 hr1 ho1 hk8
      go_wp2_with fail
      refine (RefEntries_any w8 w1.heap.size (w1.heap.size + 1) L' H9.out.1.ref (Nat.le_trans HLN.out (by decide)) (perm_fits H8.out.2 HQ.out.1)).mono ?_
      rintro e w9 ⟨v2, M2, rfl, hM2, hr2, ho2, hk9⟩
      have HSM := Lib.hid (SameTrue_any w9 v1 v2 M1 M2 (H9.out.2.2.kept hk9 (fun _ _ h => h.elim)) hr2 (both_ents H8.out.2 HQ.out.1 H9.out.2.1 hM2))
      have H10 := Lib.hid (H9.out.1.still hk9)
      clear hM2 hr2 ho2 hk9
      go_wp2_with fail
      refine HSM.out.mono ?_
      rintro e w10 ⟨rfl, hk10⟩
      have H11 := Lib.hid (H10.out.still hk10)
      clear hk10 HSM
      go_wp2_with fail
      refine (Ents_any w10 p' n1 n2 b H11.out.hasO HB.out.1 (HL.out.still H11.out.kept) (Nat.le_trans HQ.out.2.2.1.1 (by decide))).mono ?_
      rintro e w11 ⟨v3, M3, rfl, hM3, hr3, ho3, hk11⟩
      have H12 := Lib.hid (And.intro (H11.out.still hk11) (And.intro hM3 hr3))
      clear hM3 hr3 ho3 hk11
      go_wp2_with fail
      refine (RefEntries_any w11 q' (w1.heap.size + 1) L H12.out.1.refO (Nat.le_trans HQ.out.2.2.2 (by decide)) (perm_fits HB.out.2.1 HB.out.1)).mono ?_
      rintro e w12 ⟨v4, M4, rfl, hM4, hr4, ho4, hk12⟩
      have HSM := Lib.hid (SameTrue_any w12 v3 v4 M3 M4 (H12.out.2.2.kept hk12 (fun _ _ h => h.elim)) hr4 (both_ents HB.out.2.1 HB.out.1 H12.out.2.1 hM4))
      have H13 := Lib.hid (H12.out.1.still hk12)
      clear hM4 hr4 ho4 hk12
      go_wp2_with fail
      refine HSM.out.mono ?_
      rintro e w13 ⟨rfl, hk13⟩
      have H14 := Lib.hid (H13.out.still hk13)
      clear hk13
      obtain ⟨u1, hu1⟩ : ∃ u, b'.bal t d = u := ⟨_, rfl⟩
      obtain ⟨u2', hu2⟩ : ∃ u, b'.sup d = u := ⟨_, rfl⟩
      obtain ⟨u3', hu3⟩ : ∃ u, b.sup d = u := ⟨_, rfl⟩
      have HC1 := Lib.hid (fun W (h : Has W p m1 m2 b') => Bal_any W p m1 m2 b' t d h hu1)
      have HC2 := Lib.hid (fun W (h : RefHas W w1.heap.size (w1.heap.size + 1) L') => RefBal_run W _ _ L' t d h (perm_nodup H8.out.2 HQ.out.1) ((perm_bal H8.out.2 HQ.out.1 t d).trans hu1))
      have HC3 := Lib.hid (fun W (h : Has W p m1 m2 b') => Sup_any W p m1 m2 b' d h hu2)
      have HC4 := Lib.hid (fun W (h : RefHas W w1.heap.size (w1.heap.size + 1) L') => RefSup_run W _ _ L' d h ((perm_sup H8.out.2 HQ.out.1 d).trans hu2) (hu2 ▸ HQ.out.1.top d))
      have HC5 := Lib.hid (fun W (h : Has W p' n1 n2 b) => Sup_any W p' n1 n2 b d h hu3)
      have HC6 := Lib.hid (fun W (h : RefHas W q' (w1.heap.size + 1) L) => RefSup_run W _ _ L d h ((perm_sup HB.out.2.1 HB.out.1 d).trans hu3) (hu3 ▸ HB.out.1.top d))
      clear hu1 hu2 hu3
      have hc14 := H14.out.act
      obtain ⟨e0, e1, e2, e3, e4⟩ := hc14
      have HDR := Lib.hid (fun n => H14.out.still ((Kept.refl Nowhere w13).drewN n))
      go_wp2_with fail
      go_quiet (first
        | (go_at_call 13; exact Calls.quiet_of_same ((HC1.out _ (HDR.out _).has).mono fun _ _ h => ⟨h.1, h.2.symm⟩))
        | (go_at_call 22; exact Calls.quiet_of_same ((HC2.out _ (HDR.out _).ref).mono fun _ _ h => ⟨h.1, h.2.symm⟩))
        | (go_at_call_of 10 (ptr p); exact Calls.quiet_of_same ((HC3.out _ (HDR.out _).has).mono fun _ _ h => ⟨h.1, h.2.symm⟩))
        | (go_at_call_of 23 (Value.pointer (some { block := w1.heap.size, off := 0 })); exact Calls.quiet_of_same ((HC4.out _ (HDR.out _).ref).mono fun _ _ h => ⟨h.1, h.2.symm⟩))
        | (go_at_call_of 10 (ptr p'); exact Calls.quiet_of_same ((HC5.out _ (HDR.out _).hasO).mono fun _ _ h => ⟨h.1, h.2.symm⟩))
        | (go_at_call_of 23 (ptr q'); exact Calls.quiet_of_same ((HC6.out _ (HDR.out _).refO).mono fun _ _ h => ⟨h.1, h.2.symm⟩)))
      have HE := Lib.hid (HDR.out nq)
      go_wp2_with fail
      exact ⟨⟨k + 1, b', L', by omega, by go_num, HQ.out.1, H8.out.2, HQ.out.2.1, HE.out.has, HE.out.ref, HE.out.kept, HE.out.size⟩, by simp [intOf]; omega⟩
    · go_wp2_with fail
      all_goals go_ret
      all_goals exact ⟨rfl, HB.out.2.2.2.2.2.1⟩
end Go.Proofs.YtjghnfnlhmhmkaaDoor
