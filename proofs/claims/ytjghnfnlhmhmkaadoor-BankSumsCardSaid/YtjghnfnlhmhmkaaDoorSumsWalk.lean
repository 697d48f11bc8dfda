/- The walk of BankSums. -/
import Derived.Test.YtjghnfnlhmhmkaaDoorScript
import Derived.Test.YtjghnfnlhmhmkaaDoorAlive
namespace Go.Proofs.YtjghnfnlhmhmkaaDoor
open Go Go.RowKit Go.MapKept Go.ChangeMaps

set_option maxRecDepth 100000 in
set_option maxHeartbeats 1600000 in
theorem BankSums_walk (w : World) (v : Value) (acts : List ActS) (hL : Laid w) (hv : ScriptAt w v acts) :
    Calls Tryd.prog 3 #[v] w fun e w' => e = .returned (.bool true) ∧ Kept Nowhere w w' := by
  obtain ⟨ad, cap, rfl, hmax, hv⟩ := hv
  obtain ⟨n, hn⟩ : ∃ n, n = acts.length := ⟨_, rfl⟩
  rw [← hn] at hmax ⊢
  unfold maxLen at hmax
  have HNE := Lib.hid hn
  have HV := Lib.hid hv
  have HN := Lib.hid (NewH_any w hL)
  clear hn hv
  go_enter Tryd.func3, Tryd.ntmps3
  go_wp2_with fail
  refine HN.out.mono ?_
  rintro e w1 ⟨p, m1, m2, rfl, hb1, hk1, hm1, hm2, -⟩
  have HM := Lib.hid (And.intro hm1 hm2)
  have H1 := Lib.hid (And.intro hb1 hk1)
  clear hb1 hk1 hm1 hm2
  have HL := Lib.hid hL
  clear hL
  go_wp2_with fail
  refine (alive_any w1 (HL.out.still H1.out.2)).mono ?_
  rintro e w2 ⟨rfl, hk2⟩
  have H2 := Lib.hid (And.intro (H1.out.1.still hk2) (H1.out.2.trans hk2))
  clear hk2
  go_wp2_with fail
  go_loopw [4] (fun i wr => ∃ (k : Nat) (b : BS), k ≤ 60 ∧ i = .int .i64 k ∧ Hid (Good b ∧ b.A.length ≤ 2 * k ∧ Has wr p m1 m2 b ∧ Kept Nowhere w wr)) (fun i _ => 60 - (intOf i).toNat)
  case atStart => exact ⟨0, BS.none, by omega, rfl, good_none, by simp [BS.none], H2.out.1, H2.out.2⟩
  case round =>
    obtain ⟨k, b, hk60, rfl, HB⟩ := hrel
    by_cases hlt : k < n ∧ k < 60
    · obtain ⟨hlt, h60⟩ := hlt
      obtain ⟨x, hx⟩ : ∃ x, acts[k]? = some x := ⟨_, List.getElem?_eq_getElem (by rw [← HNE.out]; exact hlt)⟩
      obtain ⟨hfit, g, o, rfl, hg, c0, c1, c2, c3, c4⟩ := HV.out k x hx
      have q0 := (HB.out.2.2.2.cell (p := ⟨g, _, none⟩) hg id).trans c0
      have q1 := (HB.out.2.2.2.cell (p := ⟨g, _, none⟩) hg id).trans c1
      have q2 := (HB.out.2.2.2.cell (p := ⟨g, _, none⟩) hg id).trans c2
      have q3 := (HB.out.2.2.2.cell (p := ⟨g, _, none⟩) hg id).trans c3
      have q4 := (HB.out.2.2.2.cell (p := ⟨g, _, none⟩) hg id).trans c4
      obtain ⟨kd, f, t, d, m⟩ := x
      have hadd := add_none g o (k * 5)
      obtain ⟨was, hwas⟩ : ∃ s, b.sup d = s := ⟨_, rfl⟩
      obtain ⟨⟨er, b'⟩, hr⟩ : ∃ r, actF b ⟨kd, f, t, d, m⟩ = r := ⟨_, rfl⟩
      obtain ⟨now, hnow⟩ : ∃ s, b'.sup d = s := ⟨_, rfl⟩
      obtain ⟨bt, hbt⟩ : ∃ s, b'.bal t d = s := ⟨_, rfl⟩
      obtain ⟨bf, hbf⟩ : ∃ s, b'.bal f d = s := ⟨_, rfl⟩
      have hg' : Good b' := by have := good_act HB.out.1 ⟨kd, f, t, d, m⟩; rw [hr] at this; exact this
      have hlen' : b'.A.length ≤ 2 * (k + 1) := by
        have := length_act b ⟨kd, f, t, d, m⟩
        rw [hr] at this
        have h2 := HB.out.2.1
        simp only at this; omega
      have ht1 : bt ≤ now := by rw [← hbt, ← hnow]; exact hg'.bal_le _ _
      have ht2 : bf ≤ now := by rw [← hbf, ← hnow]; exact hg'.bal_le _ _
      have htop : now ≤ 18446744073709551615 := by rw [← hnow]; exact hg'.top d
      have HS : Hid ((kd = 1 ∧ er = 0 ∧ now = was + m ∧ was + m ≤ 18446744073709551615) ∨ (kd = 2 ∧ er = 0 ∧ now = was - m ∧ m ≤ was) ∨ (kd ≠ 1 ∧ kd ≠ 2 ∧ er = 0 ∧ now = was) ∨ (er ≠ 0 ∧ b' = b ∧ now = was)) := by
        by_cases he : er = 0
        · subst he
          by_cases k1 : kd = 1
          · have := sup_act1 (a := ⟨kd, f, t, d, m⟩) HB.out.1 k1 (by rw [hr])
            rw [hr, hnow, hwas] at this
            exact .inl ⟨k1, rfl, this⟩
          · by_cases k2 : kd = 2
            · have := sup_act2 (a := ⟨kd, f, t, d, m⟩) HB.out.1 k2 (by rw [hr])
              rw [hr, hnow, hwas] at this
              exact .inr (.inl ⟨k2, rfl, this⟩)
            · have := sup_act3 (b := b) (a := ⟨kd, f, t, d, m⟩) k1 k2 d
              rw [hr, hnow, hwas] at this
              exact .inr (.inr (.inl ⟨k1, k2, rfl, this⟩))
        · have := act_bad (b := b) (a := ⟨kd, f, t, d, m⟩) (by rw [hr]; exact he)
          rw [hr] at this
          refine .inr (.inr (.inr ⟨he, this, ?_⟩))
          have h2 : b' = b := this
          rw [← hnow, ← hwas, h2]
      have HD := Lib.hid (fun (W : World) (h : Has W p m1 m2 b) (hW : Laid W) => do_any W p m1 m2 b ⟨kd, f, t, d, m⟩ h HB.out.1 hW hfit)
      rw [hr] at HD
      have HQ := Lib.hid (And.intro hwas (And.intro hnow (And.intro hbt (And.intro hbf (And.intro hg' hlen')))))
      have hlt60 : b.A.length ≤ 1000000 ∧ b'.A.length ≤ 1000000 := ⟨by have := HB.out.2.1; omega, by omega⟩
      have HLN := Lib.hid hlt60
      have H3 := Lib.hid (And.intro (act_new wr ⟨kd, f, t, d, m⟩ 28) (And.intro (HB.out.2.2.1.alloc (.cells (ActS.cells ⟨kd, f, t, d, m⟩).toArray 28)) (HB.out.2.2.2.alloc (.cells (ActS.cells ⟨kd, f, t, d, m⟩).toArray 28))))
      clear hwas hr hnow hbt hbf hg' hlen' hlt60 hg c0 c1 c2 c3 c4 hfit hx
      obtain ⟨e0, e1, e2, e3, e4⟩ := H3.out.1
      go_wp2_with fail
      refine (Sup_any _ p m1 m2 b d H3.out.2.1 HQ.out.1).mono ?_
      rintro e w3 ⟨rfl, rfl⟩
      go_wp2_with fail
      refine (Ents_any _ p m1 m2 b H3.out.2.1 HB.out.1 (HL.out.still H3.out.2.2) HLN.out.1).mono ?_
      rintro e w4 ⟨v1, M1, rfl, hM1, hr1, ho1, hk4⟩
      have H4 := Lib.hid (And.intro (H3.out.1.kept hk4 id) (And.intro (H3.out.2.1.still hk4) (And.intro (H3.out.2.2.trans hk4) (And.intro hM1 (And.intro hr1 ho1)))))
      clear e0 e1 e2 e3 e4 hM1 hr1 ho1 hk4
      obtain ⟨e0, e1, e2, e3, e4⟩ := H4.out.1
      go_wp2_with fail
      refine (HD.out w4 H4.out.2.1 (HL.out.still H4.out.2.2.1)).mono ?_
      rintro e w5 ⟨rfl, hb5, hk5⟩
      have hm : ¬ Maps2 m1 m2 wr.heap.size ∧ ∀ j, (wr.alloc (.cells (ActS.cells ⟨kd, f, t, d, m⟩).toArray 28)).heap.size ≤ j → ¬ Maps2 m1 m2 j := by
        have e1 := HB.out.2.2.1.lt
        refine ⟨fun h => ?_, fun j hj h => ?_⟩ <;> unfold Maps2 at h
        · omega
        · have : (wr.alloc (.cells (ActS.cells ⟨kd, f, t, d, m⟩).toArray 28)).heap.size = wr.heap.size + 1 := by simp
          omega
      have hn5 : Kept Nowhere w w5 := H4.out.2.2.1.andThen hk5 (fun i hi h => by unfold Maps2 at h; have := HM.out; omega)
      have H5 := Lib.hid (And.intro (H4.out.1.kept hk5 hm.1) (And.intro (show Has w5 p m1 m2 b' from hb5) (And.intro hn5 (H4.out.2.2.2.2.1.kept hk5 fun j hj => hm.2 j (H4.out.2.2.2.2.2 j hj)))))
      clear e0 e1 e2 e3 e4 hm hn5 hk5 hb5
      obtain ⟨e0, e1, e2, e3, e4⟩ := H5.out.1
      obtain ⟨rfl, rfl, hh1, hh2⟩ | ⟨rfl, rfl, hh1, hh2⟩ | ⟨hk1, hk2, rfl, rfl⟩ | ⟨her, hbb, rfl⟩ := HS.out
      · have hw := u64_add (a := was) (b := m) hh2
        subst hh1
        go_wp2_with fail
        refine (Sup_any _ p m1 m2 b' d H5.out.2.1 HQ.out.2.1).mono ?_
        rintro e w6 ⟨rfl, rfl⟩
        go_wp2_with fail
        refine (Bal_any _ p m1 m2 b' t d H5.out.2.1 HQ.out.2.2.1).mono ?_
        rintro e w6 ⟨rfl, rfl⟩
        go_wp2_with fail
        refine (Bal_any _ p m1 m2 b' f d H5.out.2.1 HQ.out.2.2.2.1).mono ?_
        rintro e w6 ⟨rfl, rfl⟩
        go_wp2_with fail
        refine ⟨⟨k + 1, b', by omega, by go_num, HQ.out.2.2.2.2.1, HQ.out.2.2.2.2.2, H5.out.2.1, H5.out.2.2.1⟩, by simp [intOf]; omega⟩
      · have hw := u64_sub (a := was) (b := m) hh2 (by rw [← HQ.out.1]; exact HB.out.1.top d)
        subst hh1
        go_wp2_with fail
        refine (Sup_any _ p m1 m2 b' d H5.out.2.1 HQ.out.2.1).mono ?_
        rintro e w6 ⟨rfl, rfl⟩
        go_wp2_with fail
        refine (Bal_any _ p m1 m2 b' t d H5.out.2.1 HQ.out.2.2.1).mono ?_
        rintro e w6 ⟨rfl, rfl⟩
        go_wp2_with fail
        refine (Bal_any _ p m1 m2 b' f d H5.out.2.1 HQ.out.2.2.2.1).mono ?_
        rintro e w6 ⟨rfl, rfl⟩
        go_wp2_with fail
        refine ⟨⟨k + 1, b', by omega, by go_num, HQ.out.2.2.2.2.1, HQ.out.2.2.2.2.2, H5.out.2.1, H5.out.2.2.1⟩, by simp [intOf]; omega⟩
      · have b1 : (kd == 1) = false := by simpa using hk1
        have b2 : (kd == 2) = false := by simpa using hk2
        clear hk1 hk2
        go_wp2_with fail
        refine (Sup_any _ p m1 m2 b' d H5.out.2.1 HQ.out.2.1).mono ?_
        rintro e w6 ⟨rfl, rfl⟩
        go_wp2_with fail
        refine (Bal_any _ p m1 m2 b' t d H5.out.2.1 HQ.out.2.2.1).mono ?_
        rintro e w6 ⟨rfl, rfl⟩
        go_wp2_with fail
        refine (Bal_any _ p m1 m2 b' f d H5.out.2.1 HQ.out.2.2.2.1).mono ?_
        rintro e w6 ⟨rfl, rfl⟩
        go_wp2_with fail
        refine ⟨⟨k + 1, b', by omega, by go_num, HQ.out.2.2.2.2.1, HQ.out.2.2.2.2.2, H5.out.2.1, H5.out.2.2.1⟩, by simp [intOf]; omega⟩
      · have b1 : (er == 0) = false := by simpa using her
        have HBB := Lib.hid hbb
        clear her hbb
        go_wp2_with fail
        refine (Sup_any _ p m1 m2 b' d H5.out.2.1 HQ.out.2.1).mono ?_
        rintro e w6 ⟨rfl, rfl⟩
        go_wp2_with fail
        refine (Bal_any _ p m1 m2 b' t d H5.out.2.1 HQ.out.2.2.1).mono ?_
        rintro e w6 ⟨rfl, rfl⟩
        go_wp2_with fail
        refine (Bal_any _ p m1 m2 b' f d H5.out.2.1 HQ.out.2.2.2.1).mono ?_
        rintro e w6 ⟨rfl, rfl⟩
        go_wp2_with fail
        refine (Ents_any _ p m1 m2 b' H5.out.2.1 HQ.out.2.2.2.2.1 (HL.out.still H5.out.2.2.1) HLN.out.2).mono ?_
        rintro e w7 ⟨v2, M2, rfl, hM2, hr2, -, hk7⟩
        have HSM := Lib.hid (SameTrue_any w7 v2 v1 M2 M1 hr2 (H5.out.2.2.2.kept hk7 (fun _ _ h => h.elim))
          (by have := hM2; rw [HBB.out] at this; exact (Like.refl b).ents HB.out.1 HB.out.1 this.1 H4.out.2.2.2.1.1 this.2 H4.out.2.2.2.1.2))
        have H7 := Lib.hid (And.intro (H5.out.2.1.still hk7) (H5.out.2.2.1.trans hk7))
        clear hM2 hr2 hk7 e0 e1 e2 e3 e4
        go_wp2_with fail
        refine HSM.out.mono ?_
        rintro e w8 ⟨rfl, hk8⟩
        have H8 := Lib.hid (And.intro (H7.out.1.still hk8) (H7.out.2.trans hk8))
        clear hk8
        go_wp2_with fail
        refine ⟨⟨k + 1, b', by omega, by go_num, HQ.out.2.2.2.2.1, HQ.out.2.2.2.2.2, H8.out.1, H8.out.2⟩, by simp [intOf]; omega⟩
    · go_wp2_with fail
      all_goals go_ret
      all_goals exact ⟨rfl, HB.out.2.2.2⟩
end Go.Proofs.YtjghnfnlhmhmkaaDoor
