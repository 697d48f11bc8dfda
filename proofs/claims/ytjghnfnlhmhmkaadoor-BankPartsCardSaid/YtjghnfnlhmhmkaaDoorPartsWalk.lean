/- The walk of BankParts. -/
import Derived.Test.YtjghnfnlhmhmkaaDoorScript
import Derived.Test.YtjghnfnlhmhmkaaDoorAlive
import Derived.Deep.RegionHeld3
namespace Go.Proofs.YtjghnfnlhmhmkaaDoor
open Go Go.RowKit Go.MapKept Go.ChangeMaps

/-- Two banks and the act, behind a step. -/
structure TwoAt (w W : World) (p m1 m2 q n1 n2 box : Nat) (x : ActS) (b c : BS) : Prop where
  act : ActAt W box x
  one : Has W p m1 m2 b
  two : Has W q n1 n2 c
  kept : Kept Nowhere w W
structure TwoApart (w : World) (p m1 m2 q n1 n2 box : Nat) : Prop where
  m : w.heap.size ≤ m1 ∧ w.heap.size ≤ m2 ∧ w.heap.size ≤ n1 ∧ w.heap.size ≤ n2
  box : ¬ Maps2 m1 m2 box ∧ ¬ Maps2 n1 n2 box
  one : ¬ Maps2 n1 n2 p ∧ ¬ Maps2 n1 n2 m1 ∧ ¬ Maps2 n1 n2 m2
  two : ¬ Maps2 m1 m2 q ∧ ¬ Maps2 m1 m2 n1 ∧ ¬ Maps2 m1 m2 n2
section
variable {w W W' : World} {p m1 m2 q n1 n2 box : Nat} {x : ActS} {b c b' : BS}
theorem TwoAt.act1 (h : TwoAt w W p m1 m2 q n1 n2 box x b c) (ha : TwoApart w p m1 m2 q n1 n2 box) (hb : Has W' p m1 m2 b') (hk : Kept (Maps2 m1 m2) W W') : TwoAt w W' p m1 m2 q n1 n2 box x b' c :=
  ⟨h.act.kept hk ha.box.1, hb, BankIs.kept h.two hk ha.two.1 ha.two.2.1 ha.two.2.2, h.kept.andThen hk (fun i hi hm => by unfold Maps2 at hm; have := ha.m; omega)⟩
theorem TwoAt.act2 (h : TwoAt w W p m1 m2 q n1 n2 box x b c) (ha : TwoApart w p m1 m2 q n1 n2 box) (hb : Has W' q n1 n2 b') (hk : Kept (Maps2 n1 n2) W W') : TwoAt w W' p m1 m2 q n1 n2 box x b b' :=
  ⟨h.act.kept hk ha.box.2, BankIs.kept h.one hk ha.one.1 ha.one.2.1 ha.one.2.2, hb, h.kept.andThen hk (fun i hi hm => by unfold Maps2 at hm; have := ha.m; omega)⟩
theorem TwoAt.still (h : TwoAt w W p m1 m2 q n1 n2 box x b c) (hk : Kept Nowhere W W') : TwoAt w W' p m1 m2 q n1 n2 box x b c :=
  ⟨h.act.kept hk id, h.one.still hk, h.two.still hk, h.kept.trans hk⟩
end
set_option linter.unusedSimpArgs false in
set_option maxRecDepth 100000 in
set_option maxHeartbeats 40000000 in
theorem BankParts_walk (w : World) (v : Value) (acts : List ActS) (x : ActS) (part : Nat) (hL : Laid w) (hv : ScriptAt w v acts) (hfit : x.Fit) (hpart : part ≤ top64) :
    Calls Tryd.prog 5 #[v, .agg x.cells.toArray, u64V part] w fun e w' => e = .returned (.bool true) ∧ Kept Nowhere w w' := by
  obtain ⟨ad, cap, rfl, hmax, hv⟩ := hv
  obtain ⟨n, hn⟩ : ∃ n, n = acts.length := ⟨_, rfl⟩
  rw [← hn] at hmax ⊢
  unfold maxLen at hmax
  have HNE := Lib.hid hn
  have HV := Lib.hid hv
  have H0 := Lib.hid (And.intro (act_new w x 28) (And.intro ((Kept.refl Nowhere w).alloc (.cells x.cells.toArray 28)) (show w.heap.size < (w.alloc (.cells x.cells.toArray 28)).heap.size by simp)))
  have HN := Lib.hid (NewH_any (w.alloc (.cells x.cells.toArray 28)) (hL.alloc _))
  have HFX := Lib.hid hfit
  have HL := Lib.hid hL
  have HPT := Lib.hid hpart
  clear hn hv hL hfit hpart
  obtain ⟨kd, f, t, d, m⟩ := x
  go_enter Tryd.func5, Tryd.ntmps5
  unfold ActS.cells at *
  go_wp2_with fail
  refine HN.out.mono ?_
  rintro e w1 ⟨p, m1, m2, rfl, hb1, hk1, hm1, hm2, hpp⟩
  have HM := Lib.hid (show w.heap.size < m1 ∧ w.heap.size < m2 ∧ w.heap.size < p ∧ m1 < w1.heap.size ∧ m2 < w1.heap.size ∧ p < w1.heap.size from ⟨Nat.lt_of_lt_of_le H0.out.2.2 hm1, Nat.lt_of_lt_of_le H0.out.2.2 hm2, Nat.lt_of_lt_of_le H0.out.2.2 hpp, hb1.lt.2.1, hb1.lt.2.2, hb1.lt.1⟩)
  have H1 := Lib.hid (And.intro (H0.out.1.kept hk1 id) (And.intro hb1 (H0.out.2.1.trans hk1)))
  clear hb1 hk1 hm1 hm2 hpp
  go_wp2_with fail
  refine (NewH_any w1 (HL.out.still H1.out.2.2)).mono ?_
  rintro e w2 ⟨q, n1, n2, rfl, hb2, hk2, hn1, hn2, hqq⟩
  have HA : Hid (TwoApart w p m1 m2 q n1 n2 w.heap.size) := by
    have := HM.out
    refine ⟨⟨by omega, by omega, by omega, by omega⟩, ⟨?_, ?_⟩, ⟨?_, ?_, ?_⟩, ⟨?_, ?_, ?_⟩⟩ <;> (intro h; unfold Maps2 at h; omega)
  have H2 : Hid (TwoAt w w2 p m1 m2 q n1 n2 w.heap.size ⟨kd, f, t, d, m⟩ BS.none BS.none) := ⟨H1.out.1.kept hk2 id, H1.out.2.1.still hk2, hb2, H1.out.2.2.trans hk2⟩
  clear hb2 hk2 hn1 hn2 hqq
  go_wp2_with fail
  refine (alive_any w2 (HL.out.still H2.out.kept)).mono ?_
  rintro e w3 ⟨rfl, hk3⟩
  have H3 := Lib.hid (H2.out.still hk3)
  clear hk3
  go_wp2_with fail
  go_loopw [9] (fun i wr => ∃ (k : Nat) (b : BS), k ≤ 60 ∧ i = .int .i64 k ∧ Hid (Good b ∧ b.A.length ≤ 2 * k ∧ TwoAt w wr p m1 m2 q n1 n2 w.heap.size ⟨kd, f, t, d, m⟩ b b)) (fun i _ => 60 - (intOf i).toNat)
  case atStart => exact ⟨0, BS.none, by omega, rfl, good_none, by simp [BS.none], H3.out⟩
  case round =>
    obtain ⟨k, b, hk60, rfl, HB⟩ := hrel
    by_cases hlt : k < n ∧ k < 60
    · obtain ⟨hlt, h60⟩ := hlt
      obtain ⟨y, hx⟩ : ∃ x, acts[k]? = some x := ⟨_, List.getElem?_eq_getElem (by rw [← HNE.out]; exact hlt)⟩
      obtain ⟨hfit, g, o, rfl, hg, c0, c1, c2, c3, c4⟩ := HV.out k y hx
      have HG := Lib.hid hg
      have q0 := (HB.out.2.2.kept.cell (p := ⟨g, _, none⟩) hg id).trans c0
      have q1 := (HB.out.2.2.kept.cell (p := ⟨g, _, none⟩) hg id).trans c1
      have q2 := (HB.out.2.2.kept.cell (p := ⟨g, _, none⟩) hg id).trans c2
      have q3 := (HB.out.2.2.kept.cell (p := ⟨g, _, none⟩) hg id).trans c3
      have q4 := (HB.out.2.2.kept.cell (p := ⟨g, _, none⟩) hg id).trans c4
      have HC := Lib.hid (And.intro c0 (And.intro c1 (And.intro c2 (And.intro c3 c4))))
      obtain ⟨kd', f', t', d', m'⟩ := y
      have hadd := add_none g o (k * 5)
      have hg' : Good (actF b ⟨kd', f', t', d', m'⟩).2 := good_act HB.out.1 ⟨kd', f', t', d', m'⟩
      have hlen' : (actF b ⟨kd', f', t', d', m'⟩).2.A.length ≤ 2 * (k + 1) := by
        have := length_act b ⟨kd', f', t', d', m'⟩
        have h2 := HB.out.2.1
        omega
      have HD := Lib.hid (fun (W : World) (P1 P2 P3 : Nat) (h : Has W P1 P2 P3 b) (hW : Laid W) => do_any W P1 P2 P3 b ⟨kd', f', t', d', m'⟩ h HB.out.1 hW hfit)
      have HQ := Lib.hid (And.intro hg' hlen')
      clear hg' hlen' hfit hx hg c0 c1 c2 c3 c4
      generalize actF b ⟨kd', f', t', d', m'⟩ = r at HD HQ
      go_wp2_with fail
      refine (HD.out wr _ _ _ HB.out.2.2.one (HL.out.still HB.out.2.2.kept)).mono ?_
      rintro e w4 ⟨rfl, hb4, hk4⟩
      have H4 := Lib.hid (HB.out.2.2.act1 HA.out hb4 hk4)
      clear hb4 hk4 q0 q1 q2 q3 q4
      have q0 := (H4.out.kept.cell (p := ⟨g, _, none⟩) HG.out id).trans HC.out.1
      have q1 := (H4.out.kept.cell (p := ⟨g, _, none⟩) HG.out id).trans HC.out.2.1
      have q2 := (H4.out.kept.cell (p := ⟨g, _, none⟩) HG.out id).trans HC.out.2.2.1
      have q3 := (H4.out.kept.cell (p := ⟨g, _, none⟩) HG.out id).trans HC.out.2.2.2.1
      have q4 := (H4.out.kept.cell (p := ⟨g, _, none⟩) HG.out id).trans HC.out.2.2.2.2
      go_wp2_with fail
      refine (HD.out w4 _ _ _ H4.out.two (HL.out.still H4.out.kept)).mono ?_
      rintro e w5 ⟨rfl, hb5, hk5⟩
      have H5 := Lib.hid (H4.out.act2 HA.out hb5 hk5)
      clear hb5 hk5 q0 q1 q2 q3 q4
      go_wp2_with fail
      exact ⟨⟨k + 1, r.2, by omega, by go_num, HQ.out.1, HQ.out.2, H5.out⟩, by simp [intOf]; omega⟩
    · have HBL : Hid (b.A.length ≤ 120) := Nat.le_trans HB.out.2.1 (by omega)
      obtain ⟨e0, e1, e2, e3, e4⟩ := HB.out.2.2.act
      by_cases hin : 2 ≤ m ∧ 1 ≤ kd ∧ kd ≤ 3
      · obtain ⟨hin1, hin2, hin3⟩ := hin
        have hmt := HFX.out.n
        unfold top64 at hmt
        have hpp := HPT.out
        unfold top64 at hpp
        simp only at hmt
        obtain ⟨kk, hkk⟩ : ∃ kk, kk = 1 + part % (m - 1) := ⟨_, rfl⟩
        have hk0 : 0 < kk := by omega
        have hkm : kk < m := by
          have := Nat.mod_lt part (show m - 1 > 0 by omega)
          omega
        have hw1 : IntKind.u64.wrap (1 + (part : Int) % ((m : Int) - 1)) = (kk : Int) := by
          have e1 : (1 : Int) + (part : Int) % ((m : Int) - 1) = ((1 : Nat) : Int) + ((part % (m - 1) : Nat) : Int) := by
            rw [show ((m : Int) - 1) = ((m - 1 : Nat) : Int) by omega]; rfl
          rw [e1, u64_add (by unfold top64; omega), hkk]
        obtain ⟨mm, hmm⟩ : ∃ mm, mm = m - kk := ⟨_, rfl⟩
        have hw2 : IntKind.u64.wrap ((m : Int) - (kk : Int)) = (mm : Int) := by rw [u64_sub (by omega) (by unfold top64; omega), hmm]
        have hmt2 : kk ≤ 18446744073709551615 ∧ mm ≤ 18446744073709551615 := by omega
        have HKM := Lib.hid (show 0 < kk ∧ kk < m ∧ mm = m - kk from ⟨hk0, hkm, hmm⟩)
        clear hkk hmm
        obtain ⟨⟨er, b'⟩, hr⟩ : ∃ r, actF b ⟨kd, f, t, d, m⟩ = r := ⟨_, rfl⟩
        have HD := Lib.hid (do_any wr p m1 m2 b ⟨kd, f, t, d, m⟩ HB.out.2.2.one HB.out.1 (HL.out.still HB.out.2.2.kept) HFX.out)
        rw [hr] at HD
        have HR := Lib.hid hr
        clear hr
        by_cases her : er = 0
        · subst her
          go_wp2_with fail
          all_goals (
            refine HD.out.mono ?_
            rintro e w4 ⟨rfl, hb4, hk4⟩
            have H4 := Lib.hid (HB.out.2.2.act1 HA.out (b' := b') hb4 hk4)
            clear hb4 hk4 e0 e1 e2 e3 e4
            obtain ⟨e0, e1, e2, e3, e4⟩ := H4.out.act
            have hlt4 := World.block_lt_of_cell? w4 _ e0
            have HP := Lib.hid (parts (a := ⟨kd, f, t, d, m⟩) HB.out.1 (by simp only; omega) (by rw [HR.out]) kk HKM.out.1 HKM.out.2.1)
            have hg1 := good_act HB.out.1 ⟨kd, f, t, d, kk⟩
            have hg2 := good_act hg1 ⟨kd, f, t, d, m - kk⟩
            have hl2 : (actF (actF b ⟨kd, f, t, d, kk⟩).2 ⟨kd, f, t, d, m - kk⟩).2.A.length ≤ 1000000 := by
              have l1 := length_act b ⟨kd, f, t, d, kk⟩
              have l2 := length_act (actF b ⟨kd, f, t, d, kk⟩).2 ⟨kd, f, t, d, m - kk⟩
              have := HBL.out
              omega
            have hl1 : b'.A.length ≤ 1000000 := by
              have l1 := length_act b ⟨kd, f, t, d, m⟩
              rw [HR.out] at l1
              have := HBL.out
              simp only at l1
              omega
            have hgb : Good b' := by have := good_act HB.out.1 ⟨kd, f, t, d, m⟩; rw [HR.out] at this; exact this
            have hlike := HP.out.2.2
            rw [HR.out] at hlike
            have hsup := Like.sup hlike hgb hg2 d
            have HG := Lib.hid (And.intro hgb (And.intro hg2 (And.intro hlike (And.intro hl1 hl2))))
            obtain ⟨s1, hs1⟩ : ∃ s, b'.sup d = s := ⟨_, rfl⟩
            have HS1 := Lib.hid hs1
            have HS2 := Lib.hid (hsup.symm.trans hs1)
            have hm2 := HKM.out.2.2
            have HD1 := Lib.hid (fun (W : World) (h : Has W q n1 n2 b) (hW : Laid W) => (do_any W q n1 n2 b ⟨kd, f, t, d, kk⟩ h HB.out.1 hW ⟨HFX.out.from_, HFX.out.to, HFX.out.denom, by show kk ≤ 18446744073709551615; omega⟩).mono fun _ _ hl => hl.out HP.out.1 rfl)
            have HD2 := Lib.hid (fun (W : World) (h : Has W q n1 n2 (actF b ⟨kd, f, t, d, kk⟩).2) (hW : Laid W) => (do_any W q n1 n2 _ ⟨kd, f, t, d, m - kk⟩ h hg1 hW ⟨HFX.out.from_, HFX.out.to, HFX.out.denom, by show m - kk ≤ 18446744073709551615; omega⟩).mono fun _ _ hl => hl.out HP.out.2.1 rfl)
            rw [← hm2] at HP HG HS2 HD2
            have HW5 : Hid (TwoAt w ((w4.alloc (.cells (ActS.cells ⟨kd, f, t, d, kk⟩).toArray 28)).alloc (.cells (ActS.cells ⟨kd, f, t, d, mm⟩).toArray 28)) p m1 m2 q n1 n2 w.heap.size ⟨kd, f, t, d, m⟩ b' b ∧
                ActAt ((w4.alloc (.cells (ActS.cells ⟨kd, f, t, d, kk⟩).toArray 28)).alloc (.cells (ActS.cells ⟨kd, f, t, d, mm⟩).toArray 28)) (w4.heap.size + 1) ⟨kd, f, t, d, mm⟩ ∧ ¬ Maps2 n1 n2 (w4.heap.size + 1)) := by
              refine ⟨H4.out.still (((Kept.refl Nowhere w4).alloc _).alloc _), ?_, ?_⟩
              · have := act_new (w4.alloc (.cells (ActS.cells ⟨kd, f, t, d, kk⟩).toArray 28)) ⟨kd, f, t, d, mm⟩ 28
                have e : (w4.alloc (.cells (ActS.cells ⟨kd, f, t, d, kk⟩).toArray 28)).heap.size = w4.heap.size + 1 := by simp
                rw [e] at this
                exact this
              · intro h
                have := H4.out.two.lt
                unfold Maps2 at h; omega
            generalize actF (actF b ⟨kd, f, t, d, kk⟩).2 ⟨kd, f, t, d, mm⟩ = rc at HP HG HS2 HD2
            generalize actF b ⟨kd, f, t, d, kk⟩ = rb at HP HD1 HD2
            clear hg1 hg2 hl2 hl1 hgb hlike hsup hs1 hm2 HP
            go_wp2_with fail
            refine (HD1.out _ HW5.out.1.two (HL.out.still HW5.out.1.kept)).mono ?_
            rintro e w5 ⟨rfl, hb5, hk5⟩
            have H5 := Lib.hid (And.intro (HW5.out.1.act2 HA.out hb5 hk5) (HW5.out.2.1.kept hk5 HW5.out.2.2))
            clear hb5 hk5 e0 e1 e2 e3 e4
            obtain ⟨e0, e1, e2, e3, e4⟩ := H5.out.2
            go_wp2_with fail
            refine (HD2.out _ H5.out.1.two (HL.out.still H5.out.1.kept)).mono ?_
            rintro e w6 ⟨rfl, hb6, hk6⟩
            have H6 := Lib.hid (H5.out.1.act2 HA.out hb6 hk6)
            clear hb6 hk6 e0 e1 e2 e3 e4
            have hc6 := H6.out.act.c3
            have H6d := Lib.hid (H6.out.still (Kept.refl Nowhere w6).drew)
            have hcd := H6d.out.act.c3
            go_wp2_with fail
            refine wp_region_noPanic ?_
            refine wp_region_held_drew (S := fun W => W.cell? ⟨w.heap.size, 3, none⟩ = some (.string d)) (by kernel_rfl) hcd (fun hHeld => ?_)
            refine wpAnyH_take (i := 0) (v := ?_) rfl (by kernel_rfl) (by kernel_rfl) (by kernel_rfl) (fun _ _ _ h => h) (Or.inl ⟨by kernel_rfl, ?_⟩) hHeld ?_
            rotate_left 1
            · intro w' hS; (try dsimp only at hS); go_simp; (try with_reducible rfl)
            simp only [List.getElem_toArray, List.getElem_cons_succ, List.getElem_cons_zero, Act.put, List.setIfInBounds_toArray, List.set_cons_zero, List.set_cons_succ]
            refine wpAnyH_take (i := 1) (v := ?_) rfl (by kernel_rfl) (by kernel_rfl) (by kernel_rfl) (fun _ _ _ h => h) (Or.inl ⟨by kernel_rfl, ?_⟩) hHeld ?_
            rotate_left 1
            · intro w' hS; (try dsimp only at hS); go_simp; (try with_reducible rfl)
            simp only [List.getElem_toArray, List.getElem_cons_succ, List.getElem_cons_zero, Act.put, List.setIfInBounds_toArray, List.set_cons_zero, List.set_cons_succ]
            refine wpAnyH_take (i := 2) (v := ?_) rfl (by kernel_rfl) (by kernel_rfl) (by kernel_rfl) (fun _ _ _ h => h) (Or.inl ⟨by kernel_rfl, ?_⟩) hHeld ?_
            rotate_left 1
            · intro w' hS; (try dsimp only at hS); go_simp; (try with_reducible rfl)
            simp only [List.getElem_toArray, List.getElem_cons_succ, List.getElem_cons_zero, Act.put, List.setIfInBounds_toArray, List.set_cons_zero, List.set_cons_succ]
            refine wpAnyH_take (i := 3) (v := ?_) rfl (by kernel_rfl) (by kernel_rfl) (by kernel_rfl) (fun _ _ _ h => h) (Or.inl ⟨by kernel_rfl, ?_⟩) hHeld ?_
            rotate_left 1
            · intro w' hS; (try dsimp only at hS); go_simp; (try with_reducible rfl)
            simp only [List.getElem_toArray, List.getElem_cons_succ, List.getElem_cons_zero, Act.put, List.setIfInBounds_toArray, List.set_cons_zero, List.set_cons_succ]
            refine wpAnyH_take (i := 4) (v := ?_) rfl (by kernel_rfl) (by kernel_rfl) (by kernel_rfl) (fun _ _ _ h => h) (Or.inl ⟨by kernel_rfl, ?_⟩) hHeld ?_
            rotate_left 1
            · intro w' hS; (try dsimp only at hS); go_simp; (try with_reducible rfl)
            simp only [List.getElem_toArray, List.getElem_cons_succ, List.getElem_cons_zero, Act.put, List.setIfInBounds_toArray, List.set_cons_zero, List.set_cons_succ]
            refine wpAnyH_take (i := 5) (v := ?_) rfl (by kernel_rfl) (by kernel_rfl) (by kernel_rfl) (fun _ _ _ h => h) (Or.inl ⟨by kernel_rfl, ?_⟩) hHeld ?_
            rotate_left 1
            · intro w' hS; (try dsimp only at hS); go_simp; (try with_reducible rfl)
            simp only [List.getElem_toArray, List.getElem_cons_succ, List.getElem_cons_zero, Act.put, List.setIfInBounds_toArray, List.set_cons_zero, List.set_cons_succ]
            refine wpAnyH_take (i := 6) (v := ?_) rfl (by kernel_rfl) (by kernel_rfl) (by kernel_rfl) (fun _ _ _ h => h) (Or.inl ⟨by kernel_rfl, ?_⟩) hHeld ?_
            rotate_left 1
            · intro w' hS; (try dsimp only at hS); go_simp; (try with_reducible rfl)
            simp only [List.getElem_toArray, List.getElem_cons_succ, List.getElem_cons_zero, Act.put, List.setIfInBounds_toArray, List.set_cons_zero, List.set_cons_succ]
            refine wpAnyH_take (i := 7) (v := ?_) rfl (by kernel_rfl) (by kernel_rfl) (by kernel_rfl) (fun _ _ _ h => h) (Or.inl ⟨by kernel_rfl, ?_⟩) hHeld ?_
            rotate_left 1
            · intro w' hS; (try dsimp only at hS); go_simp; (try with_reducible rfl)
            simp only [List.getElem_toArray, List.getElem_cons_succ, List.getElem_cons_zero, Act.put, List.setIfInBounds_toArray, List.set_cons_zero, List.set_cons_succ]
            refine wpAnyH_take (i := 9) (v := ?_) rfl (by kernel_rfl) (by kernel_rfl) (by kernel_rfl) (fun _ _ _ h => h) (Or.inl ⟨by kernel_rfl, ?_⟩) hHeld ?_
            rotate_left 1
            · intro w' hS; (try dsimp only at hS); go_simp; (try with_reducible rfl)
            simp only [List.getElem_toArray, List.getElem_cons_succ, List.getElem_cons_zero, Act.put, List.setIfInBounds_toArray, List.set_cons_zero, List.set_cons_succ]
            refine wpAnyH_ready (rs := [8]) (by kernel_rfl) (by simp) ?_
            refine AllReadyH.cons rfl (fun K hK => ?_) AllReadyH.nil
            go_simp
            refine (Ents_any _ p m1 m2 b' H6d.out.one HG.out.1 (HL.out.still H6d.out.kept) HG.out.2.2.2.1).mono ?_
            rintro e w7 ⟨v1, M1, rfl, hM1, hr1, ho1, hk7⟩
            have H7 := Lib.hid (H6d.out.still hk7)
            have HM1 := Lib.hid (And.intro hM1 hr1)
            clear hM1 hr1 ho1 hk7
            refine hK.out _ _ ?_ (fun hHeld' => ?_)
            · exact H7.out.act.c3
            clear hK K hHeld
            have hHeld := hHeld'
            clear hHeld'
            (try simp only [List.getElem_toArray, List.getElem_cons_succ, List.getElem_cons_zero, Act.put, List.setIfInBounds_toArray, List.set_cons_zero, List.set_cons_succ])
            refine wpAnyH_ready (rs := [10]) (by kernel_rfl) (by simp) ?_
            refine AllReadyH.cons rfl (fun K hK => ?_) AllReadyH.nil
            go_simp
            refine (Ents_any _ q n1 n2 rc.2 H7.out.two HG.out.2.1 (HL.out.still H7.out.kept) HG.out.2.2.2.2).mono ?_
            rintro e w8 ⟨v2, M2, rfl, hM2, hr2, ho2, hk8⟩
            have H8 := Lib.hid (H7.out.still hk8)
            have HSM := Lib.hid (SameTrue_any w8 v1 v2 M1 M2 (HM1.out.2.kept hk8 (fun _ _ h => h.elim)) hr2 (HG.out.2.2.1.ents HG.out.1 HG.out.2.1 HM1.out.1.1 hM2.1 HM1.out.1.2 hM2.2))
            clear hM2 hr2 ho2 hk8
            refine hK.out _ _ ?_ (fun hHeld' => ?_)
            · exact H8.out.act.c3
            clear hK K hHeld
            have hHeld := hHeld'
            clear hHeld'
            (try simp only [List.getElem_toArray, List.getElem_cons_succ, List.getElem_cons_zero, Act.put, List.setIfInBounds_toArray, List.set_cons_zero, List.set_cons_succ])
            refine wpAnyH_ready (rs := [11]) (by kernel_rfl) (by simp) ?_
            refine AllReadyH.cons rfl (fun K hK => ?_) AllReadyH.nil
            go_simp
            refine HSM.out.mono ?_
            rintro e w9 ⟨rfl, hk9⟩
            have H9 := Lib.hid (H8.out.still hk9)
            clear hk9
            refine hK.out _ _ ?_ (fun hHeld' => ?_)
            · exact H9.out.act.c3
            clear hK K hHeld
            have hHeld := hHeld'
            clear hHeld'
            (try simp only [List.getElem_toArray, List.getElem_cons_succ, List.getElem_cons_zero, Act.put, List.setIfInBounds_toArray, List.set_cons_zero, List.set_cons_succ])
            refine wpAnyH_take (i := 12) (v := ?_) rfl (by kernel_rfl) (by kernel_rfl) (by kernel_rfl) (fun _ _ _ h => h) (Or.inl ⟨by kernel_rfl, ?_⟩) hHeld ?_
            rotate_left 1
            · intro w' hS; (try dsimp only at hS); go_simp; (try with_reducible rfl)
            simp only [List.getElem_toArray, List.getElem_cons_succ, List.getElem_cons_zero, Act.put, List.setIfInBounds_toArray, List.set_cons_zero, List.set_cons_succ]
            refine wpAnyH_take (i := 13) (v := ?_) rfl (by kernel_rfl) (by kernel_rfl) (by kernel_rfl) (fun _ _ _ h => h) (Or.inl ⟨by kernel_rfl, ?_⟩) hHeld ?_
            rotate_left 1
            · intro w' hS; (try dsimp only at hS); go_simp; (try with_reducible rfl)
            simp only [List.getElem_toArray, List.getElem_cons_succ, List.getElem_cons_zero, Act.put, List.setIfInBounds_toArray, List.set_cons_zero, List.set_cons_succ]
            refine wpAnyH_take (i := 14) (v := ?_) rfl (by kernel_rfl) (by kernel_rfl) (by kernel_rfl) (fun _ _ _ h => h) (Or.inl ⟨by kernel_rfl, ?_⟩) hHeld ?_
            rotate_left 1
            · intro w' hS; (try dsimp only at hS); go_simp; (try with_reducible rfl)
            simp only [List.getElem_toArray, List.getElem_cons_succ, List.getElem_cons_zero, Act.put, List.setIfInBounds_toArray, List.set_cons_zero, List.set_cons_succ]
            refine wpAnyH_take (i := 15) (v := ?_) rfl (by kernel_rfl) (by kernel_rfl) (by kernel_rfl) (fun _ _ _ h => h) (Or.inl ⟨by kernel_rfl, ?_⟩) hHeld ?_
            rotate_left 1
            · intro w' hS; (try dsimp only at hS); go_simp; (try with_reducible rfl)
            simp only [List.getElem_toArray, List.getElem_cons_succ, List.getElem_cons_zero, Act.put, List.setIfInBounds_toArray, List.set_cons_zero, List.set_cons_succ]
            refine wpAnyH_take (i := 16) (v := ?_) rfl (by kernel_rfl) (by kernel_rfl) (by kernel_rfl) (fun _ _ _ h => h) (Or.inl ⟨by kernel_rfl, ?_⟩) hHeld ?_
            rotate_left 1
            · intro w' hS; (try dsimp only at hS); go_simp; (try with_reducible rfl)
            simp only [List.getElem_toArray, List.getElem_cons_succ, List.getElem_cons_zero, Act.put, List.setIfInBounds_toArray, List.set_cons_zero, List.set_cons_succ]
            refine wpAnyH_take (i := 18) (v := ?_) rfl (by kernel_rfl) (by kernel_rfl) (by kernel_rfl) (fun _ _ _ h => h) (Or.inl ⟨by kernel_rfl, ?_⟩) hHeld ?_
            rotate_left 1
            · intro w' hS; (try dsimp only at hS); go_simp; (try with_reducible rfl)
            simp only [List.getElem_toArray, List.getElem_cons_succ, List.getElem_cons_zero, Act.put, List.setIfInBounds_toArray, List.set_cons_zero, List.set_cons_succ]
            refine wpAnyH_take (i := 19) (v := ?_) rfl (by kernel_rfl) (by kernel_rfl) (by kernel_rfl) (fun _ _ _ h => h) (Or.inl ⟨by kernel_rfl, ?_⟩) hHeld ?_
            rotate_left 1
            · intro w' hS; (try dsimp only at hS); go_simp; (try with_reducible rfl)
            simp only [List.getElem_toArray, List.getElem_cons_succ, List.getElem_cons_zero, Act.put, List.setIfInBounds_toArray, List.set_cons_zero, List.set_cons_succ]
            refine wpAnyH_take (i := 20) (v := ?_) rfl (by kernel_rfl) (by kernel_rfl) (by kernel_rfl) (fun _ _ _ h => h) (Or.inl ⟨by kernel_rfl, ?_⟩) hHeld ?_
            rotate_left 1
            · intro w' hS; (try dsimp only at hS); go_simp; (try with_reducible rfl)
            simp only [List.getElem_toArray, List.getElem_cons_succ, List.getElem_cons_zero, Act.put, List.setIfInBounds_toArray, List.set_cons_zero, List.set_cons_succ]
            refine wpAnyH_ready (rs := [17]) (by kernel_rfl) (by simp) ?_
            refine AllReadyH.cons rfl (fun K hK => ?_) AllReadyH.nil
            go_simp
            refine (Sup_any _ p m1 m2 b' d H9.out.one HS1.out).mono ?_
            rintro e w10 ⟨rfl, rfl⟩
            refine hK.out _ _ ?_ (fun hHeld' => ?_)
            · exact H9.out.act.c3
            clear hK K hHeld
            have hHeld := hHeld'
            clear hHeld'
            (try simp only [List.getElem_toArray, List.getElem_cons_succ, List.getElem_cons_zero, Act.put, List.setIfInBounds_toArray, List.set_cons_zero, List.set_cons_succ])
            refine wpAnyH_ready (rs := [21]) (by kernel_rfl) (by simp) ?_
            refine AllReadyH.cons rfl (fun K hK => ?_) AllReadyH.nil
            go_simp
            refine (Sup_any _ q n1 n2 rc.2 d H9.out.two HS2.out).mono ?_
            rintro e w10 ⟨rfl, rfl⟩
            refine hK.out _ _ ?_ (fun hHeld' => ?_)
            · exact H9.out.act.c3
            clear hK K hHeld
            have hHeld := hHeld'
            clear hHeld'
            (try simp only [List.getElem_toArray, List.getElem_cons_succ, List.getElem_cons_zero, Act.put, List.setIfInBounds_toArray, List.set_cons_zero, List.set_cons_succ])
            refine wpAnyH_take (i := 22) (v := ?_) rfl (by kernel_rfl) (by kernel_rfl) (by kernel_rfl) (fun _ _ _ h => h) (Or.inl ⟨by kernel_rfl, ?_⟩) hHeld ?_
            rotate_left 1
            · intro w' hS; (try dsimp only at hS); go_simp; (try with_reducible rfl)
            simp only [List.getElem_toArray, List.getElem_cons_succ, List.getElem_cons_zero, Act.put, List.setIfInBounds_toArray, List.set_cons_zero, List.set_cons_succ]
            refine wpAnyH_take (i := 23) (v := ?_) rfl (by kernel_rfl) (by kernel_rfl) (by kernel_rfl) (fun _ _ _ h => h) (Or.inl ⟨by kernel_rfl, ?_⟩) hHeld ?_
            rotate_left 1
            · intro w' hS; (try dsimp only at hS); go_simp; (try with_reducible rfl)
            simp only [List.getElem_toArray, List.getElem_cons_succ, List.getElem_cons_zero, Act.put, List.setIfInBounds_toArray, List.set_cons_zero, List.set_cons_succ]
            refine wpAnyH_take (i := 24) (v := ?_) rfl (by kernel_rfl) (by kernel_rfl) (by kernel_rfl) (fun _ _ _ h => h) (Or.inl ⟨by kernel_rfl, ?_⟩) hHeld ?_
            rotate_left 1
            · intro w' hS; (try dsimp only at hS); go_simp; (try with_reducible rfl)
            simp only [List.getElem_toArray, List.getElem_cons_succ, List.getElem_cons_zero, Act.put, List.setIfInBounds_toArray, List.set_cons_zero, List.set_cons_succ]
            refine wpAnyH_done (by kernel_rfl) ?_ _
            refine NoPanic.normal ?_
            go_wp2_with fail
            go_ret
            exact ⟨rfl, H9.out.kept⟩)
        · have b1 : (er == 0) = false := by simpa using her
          clear her
          go_wp2_with fail
          all_goals
            refine HD.out.mono ?_
            rintro e w4 ⟨rfl, hb4, hk4⟩
            have H4 := Lib.hid (HB.out.2.2.act1 HA.out (b' := b') hb4 hk4)
            clear hb4 hk4 e0 e1 e2 e3 e4
            obtain ⟨e0, e1, e2, e3, e4⟩ := H4.out.act
            have hlt4 := World.block_lt_of_cell? w4 _ e0
            go_wp2_with fail
            go_ret
            exact ⟨rfl, (H4.out.kept.alloc _).alloc _⟩
      · have hdec : m < 2 ∨ kd < 1 ∨ 3 < kd := by omega
        rcases hdec with h1 | h1 | h1
        · go_wp2_with fail
          all_goals go_ret
          all_goals exact ⟨rfl, HB.out.2.2.kept⟩
        · by_cases h2 : m < 2
          · go_wp2_with fail
            all_goals go_ret
            all_goals exact ⟨rfl, HB.out.2.2.kept⟩
          · go_wp2_with fail
            all_goals go_ret
            all_goals exact ⟨rfl, HB.out.2.2.kept⟩
        · by_cases h2 : m < 2
          · go_wp2_with fail
            all_goals go_ret
            all_goals exact ⟨rfl, HB.out.2.2.kept⟩
          · go_wp2_with fail
            all_goals go_ret
            all_goals exact ⟨rfl, HB.out.2.2.kept⟩
end Go.Proofs.YtjghnfnlhmhmkaaDoor
