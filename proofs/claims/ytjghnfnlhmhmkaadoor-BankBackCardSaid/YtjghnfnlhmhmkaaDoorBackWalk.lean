/- The walk of BankBack. -/
import Derived.Test.YtjghnfnlhmhmkaaDoorScript
import Derived.Test.YtjghnfnlhmhmkaaDoorAlive
namespace Go.Proofs.YtjghnfnlhmhmkaaDoor
open Go Go.RowKit Go.MapKept Go.ChangeMaps

/-- What stands of the bank and the act, behind a step. -/
structure BackAt (w W : World) (p m1 m2 box : Nat) (x : ActS) (b : BS) (v : Value) (M : List (BA × BA)) : Prop where
  act : ActAt W box x
  has : Has W p m1 m2 b
  kept : Kept Nowhere w W
  reads : ReadsEnt W v M
structure BackApart (w : World) (m1 m2 box : Nat) (v : Value) : Prop where
  m : w.heap.size ≤ m1 ∧ w.heap.size ≤ m2
  box : ¬ Maps2 m1 m2 box
  v : ∀ k, v.ownBlock = some k → ¬ Maps2 m1 m2 k
theorem BackAt.acted {w W W' : World} {p m1 m2 box : Nat} {x : ActS} {b b' : BS} {v : Value} {M : List (BA × BA)} (h : BackAt w W p m1 m2 box x b v M) (ha : BackApart w m1 m2 box v) (hb : Has W' p m1 m2 b') (hk : Kept (Maps2 m1 m2) W W') : BackAt w W' p m1 m2 box x b' v M :=
  ⟨h.act.kept hk ha.box, hb, h.kept.andThen hk (fun i hi hm => by unfold Maps2 at hm; have := ha.m; omega), h.reads.kept hk ha.v⟩
/-- An act's ending, its number and the state behind it by name. -/
def LeftIs (p m1 m2 : Nat) (n : Int) (b : BS) (W : World) (e : Ending) (W' : World) : Prop := e = .returned (.int .i64 n) ∧ Has W' p m1 m2 b ∧ Kept (Maps2 m1 m2) W W'
theorem move_back (p m1 m2 : Nat) {b : BS} (hg : Good b) (f t d : BA) (m : Nat) (hf : f.size ≤ maxLen) (ht : t.size ≤ maxLen) (hd : d.size ≤ maxLen) : ∃ (n : Int) (b1 c : BS), Good c ∧ Like c b ∧ c.A.length ≤ b.A.length + 4 ∧
    (∀ W, Has W p m1 m2 b → Laid W → Calls Tryd.prog 15 #[ptr p, .string f, .string t, .string d, u64V m] W (LeftIs p m1 m2 n b1 W)) ∧
    ((n = 0 ∧ ∀ W, Has W p m1 m2 b1 → Laid W → Calls Tryd.prog 15 #[ptr p, .string t, .string f, .string d, u64V m] W (LeftIs p m1 m2 0 c W)) ∨ ((n == 0) = false ∧ c = b1)) := by
  have h1 : ∀ W, Has W p m1 m2 b → Laid W → Calls Tryd.prog 15 #[ptr p, .string f, .string t, .string d, u64V m] W (LeftIs p m1 m2 (moveF b f t d m).1 (moveF b f t d m).2 W) := fun W h hW => Move_any W p m1 m2 b f t d m h hg hW hf ht hd
  by_cases h : (moveF b f t d m).1 = 0
  · obtain ⟨e1, e2⟩ := back_move h
    have hg1 := good_move hg f t d m
    have l1 := length_move b f t d m
    have l2 := length_move (moveF b f t d m).2 t f d m
    refine ⟨_, _, (moveF (moveF b f t d m).2 t f d m).2, good_move hg1 _ _ _ _, e2, by omega, h1, .inl ⟨h, fun W hb hW => (Move_any W p m1 m2 _ t f d m hb hg1 hW ht hf hd).mono fun _ _ hl => hl.out e1 rfl⟩⟩
  · have e := move_bad h
    refine ⟨_, _, (moveF b f t d m).2, good_move hg _ _ _ _, by rw [e]; exact Like.refl b, by rw [e]; omega, h1, .inr ⟨by simpa using h, rfl⟩⟩
theorem mint_back (p m1 m2 : Nat) {b : BS} (hg : Good b) (t d : BA) (m : Nat) (ht : t.size ≤ maxLen) (hd : d.size ≤ maxLen) : ∃ (n : Int) (b1 c : BS), Good c ∧ Like c b ∧ c.A.length ≤ b.A.length + 2 ∧
    (∀ W, Has W p m1 m2 b → Laid W → Calls Tryd.prog 16 #[ptr p, .string t, .string d, u64V m] W (LeftIs p m1 m2 n b1 W)) ∧
    ((n = 0 ∧ ∀ W, Has W p m1 m2 b1 → Laid W → Calls Tryd.prog 17 #[ptr p, .string t, .string d, u64V m] W (LeftIs p m1 m2 0 c W)) ∨ ((n == 0) = false ∧ c = b1)) := by
  have h1 : ∀ W, Has W p m1 m2 b → Laid W → Calls Tryd.prog 16 #[ptr p, .string t, .string d, u64V m] W (LeftIs p m1 m2 (mintF b t d m).1 (mintF b t d m).2 W) := fun W h hW => Mint_any W p m1 m2 b t d m h hg hW ht hd
  by_cases h : (mintF b t d m).1 = 0
  · obtain ⟨e1, e2⟩ := back_mint h
    have hg1 := good_mint hg t d m
    have l1 := length_mint b t d m
    have l2 := length_burn (mintF b t d m).2 t d m
    refine ⟨_, _, (burnF (mintF b t d m).2 t d m).2, good_burn hg1 _ _ _, e2, by omega, h1, .inl ⟨h, fun W hb hW => (Burn_any W p m1 m2 _ t d m hb hg1 hW ht hd).mono fun _ _ hl => hl.out e1 rfl⟩⟩
  · have e := mint_bad h
    refine ⟨_, _, (mintF b t d m).2, good_mint hg _ _ _, by rw [e]; exact Like.refl b, by rw [e]; omega, h1, .inr ⟨by simpa using h, rfl⟩⟩
set_option maxRecDepth 100000 in
set_option maxHeartbeats 1600000 in
theorem BankBack_walk (w : World) (v : Value) (acts : List ActS) (x : ActS) (hL : Laid w) (hv : ScriptAt w v acts) (hfit : x.Fit) :
    Calls Tryd.prog 4 #[v, .agg x.cells.toArray] w fun e w' => e = .returned (.bool true) ∧ Kept Nowhere w w' := by
  obtain ⟨ad, cap, rfl, hmax, hv⟩ := hv
  obtain ⟨n, hn⟩ : ∃ n, n = acts.length := ⟨_, rfl⟩
  rw [← hn] at hmax ⊢
  unfold maxLen at hmax
  have HNE := Lib.hid hn
  have HV := Lib.hid hv
  have H0 := Lib.hid (And.intro (act_new w x 28) (And.intro ((Kept.refl Nowhere w).alloc (.cells x.cells.toArray 28)) (show w.heap.size < (w.alloc (.cells x.cells.toArray 28)).heap.size by simp)))
  have HN := Lib.hid (NewH_any (w.alloc (.cells x.cells.toArray 28)) (hL.alloc _))
  have HFX := Lib.hid hfit
  have HL := Lib.hid hL
  clear hn hv hL hfit
  obtain ⟨kd, f, t, d, m⟩ := x
  go_enter Tryd.func4, Tryd.ntmps4
  unfold ActS.cells at *
  go_wp2_with fail
  refine HN.out.mono ?_
  rintro e w1 ⟨p, m1, m2, rfl, hb1, hk1, hm1, hm2, hpp⟩
  have HM := Lib.hid (show w.heap.size < m1 ∧ w.heap.size < m2 from ⟨Nat.lt_of_lt_of_le H0.out.2.2 hm1, Nat.lt_of_lt_of_le H0.out.2.2 hm2⟩)
  have H1 := Lib.hid (And.intro (H0.out.1.kept hk1 id) (And.intro hb1 (H0.out.2.1.trans hk1)))
  clear hb1 hk1 hm1 hm2 hpp
  go_wp2_with fail
  refine (alive_any w1 (HL.out.still H1.out.2.2)).mono ?_
  rintro e w2 ⟨rfl, hk2⟩
  have H2 := Lib.hid (And.intro (H1.out.1.kept hk2 id) (And.intro (H1.out.2.1.still hk2) (H1.out.2.2.trans hk2)))
  clear hk2
  go_wp2_with fail
  go_loopw [6] (fun i wr => ∃ (k : Nat) (b : BS), k ≤ 60 ∧ i = .int .i64 k ∧ Hid (Good b ∧ b.A.length ≤ 2 * k ∧ Has wr p m1 m2 b ∧ Kept Nowhere w wr ∧ ActAt wr w.heap.size ⟨kd, f, t, d, m⟩)) (fun i _ => 60 - (intOf i).toNat)
  case atStart => exact ⟨0, BS.none, by omega, rfl, good_none, by simp [BS.none], H2.out.2.1, H2.out.2.2, H2.out.1⟩
  case round =>
    obtain ⟨k, b, hk60, rfl, HB⟩ := hrel
    by_cases hlt : k < n ∧ k < 60
    · obtain ⟨hlt, h60⟩ := hlt
      obtain ⟨y, hx⟩ : ∃ x, acts[k]? = some x := ⟨_, List.getElem?_eq_getElem (by rw [← HNE.out]; exact hlt)⟩
      obtain ⟨hfit, g, o, rfl, hg, c0, c1, c2, c3, c4⟩ := HV.out k y hx
      have q0 := (HB.out.2.2.2.1.cell (p := ⟨g, _, none⟩) hg id).trans c0
      have q1 := (HB.out.2.2.2.1.cell (p := ⟨g, _, none⟩) hg id).trans c1
      have q2 := (HB.out.2.2.2.1.cell (p := ⟨g, _, none⟩) hg id).trans c2
      have q3 := (HB.out.2.2.2.1.cell (p := ⟨g, _, none⟩) hg id).trans c3
      have q4 := (HB.out.2.2.2.1.cell (p := ⟨g, _, none⟩) hg id).trans c4
      obtain ⟨kd', f', t', d', m'⟩ := y
      have hadd := add_none g o (k * 5)
      have hg' : Good (actF b ⟨kd', f', t', d', m'⟩).2 := good_act HB.out.1 ⟨kd', f', t', d', m'⟩
      have hlen' : (actF b ⟨kd', f', t', d', m'⟩).2.A.length ≤ 2 * (k + 1) := by
        have := length_act b ⟨kd', f', t', d', m'⟩
        have h2 := HB.out.2.1
        omega
      have HD := Lib.hid (do_any wr p m1 m2 b ⟨kd', f', t', d', m'⟩ HB.out.2.2.1 HB.out.1 (HL.out.still HB.out.2.2.2.1) hfit)
      have HQ := Lib.hid (And.intro hg' hlen')
      clear hg' hlen' hfit hx hg c0 c1 c2 c3 c4
      generalize actF b ⟨kd', f', t', d', m'⟩ = r at HD HQ
      go_wp2_with fail
      refine HD.out.mono ?_
      rintro e w3 ⟨rfl, hb3, hk3⟩
      have H3 := Lib.hid (And.intro hb3 (And.intro (HB.out.2.2.2.1.andThen hk3 (fun i hi hm => by unfold Maps2 at hm; have := HM.out; omega))
        (HB.out.2.2.2.2.kept hk3 (fun hm => by unfold Maps2 at hm; have := HM.out; omega))))
      clear hb3 hk3 q0 q1 q2 q3 q4
      go_wp2_with fail
      exact ⟨⟨k + 1, r.2, by omega, by go_num, HQ.out.1, HQ.out.2, H3.out.1, H3.out.2.1, H3.out.2.2⟩, by simp [intOf]; omega⟩
    · have HBL : Hid (b.A.length ≤ 120) := Nat.le_trans HB.out.2.1 (by omega)
      go_wp2_with fail
      all_goals
        refine (Ents_any _ p m1 m2 b HB.out.2.2.1 HB.out.1 (HL.out.still HB.out.2.2.2.1) (Nat.le_trans HBL.out (by decide))).mono ?_
        rintro e w4 ⟨v1, M1, rfl, hM1, hr1, ho1, hk4⟩
        have HA : Hid (BackApart w m1 m2 w.heap.size v1) := by
          have hm := HM.out
          have hlt := HB.out.2.2.1.lt
          refine ⟨⟨by omega, by omega⟩, fun h => by unfold Maps2 at h; omega, fun k hk h => ?_⟩
          have := ho1 k hk
          unfold Maps2 at h; omega
        have H4 : Hid (BackAt w w4 p m1 m2 w.heap.size ⟨kd, f, t, d, m⟩ b v1 M1) := ⟨HB.out.2.2.2.2.kept hk4 id, HB.out.2.2.1.still hk4, HB.out.2.2.2.1.trans hk4, hr1⟩
        have HM1 := Lib.hid hM1
        clear hM1 hr1 ho1 hk4
        obtain ⟨n1, b1, c, hgc, hlc, hnc, hmv, hback⟩ := move_back p m1 m2 HB.out.1 f t d m HFX.out.from_ HFX.out.to HFX.out.denom
        obtain ⟨n2, b2, z, hgz, hlz, hnz, hmt, hburn⟩ := mint_back p m1 m2 hgc t d m HFX.out.to HFX.out.denom
        have HZ := Lib.hid (show Good z ∧ Like z b ∧ z.A.length ≤ 1000000 from ⟨hgz, hlz.trans hlc, by have := HBL.out; omega⟩)
        have HMV := Lib.hid hmv
        have HMT := Lib.hid hmt
        have HBK := Lib.hid hback
        have HBN := Lib.hid hburn
        clear hgc hlc hnc hmv hback hgz hlz hnz hmt hburn
        obtain ⟨e0, e1, e2, e3, e4⟩ := H4.out.act
        go_wp2_with fail
        refine (HMV.out w4 H4.out.has (HL.out.still H4.out.kept)).mono ?_
        rintro e w5 ⟨rfl, hb5, hk5⟩
        have H5 := Lib.hid (H4.out.acted HA.out hb5 hk5)
        clear hb5 hk5 e0 e1 e2 e3 e4
        obtain ⟨e0, e1, e2, e3, e4⟩ := H5.out.act
        obtain ⟨rfl, hbk⟩ | ⟨hn1, hcb⟩ := HBK.out
        · clear HBK
          have HBK := Lib.hid hbk
          clear hbk
          go_wp2_with fail
          refine (HBK.out w5 H5.out.has (HL.out.still H5.out.kept)).mono ?_
          rintro e w6 ⟨rfl, hb6, hk6⟩
          have H6 := Lib.hid (H5.out.acted HA.out hb6 hk6)
          clear hb6 hk6 e0 e1 e2 e3 e4
          obtain ⟨e0, e1, e2, e3, e4⟩ := H6.out.act
          go_wp2_with fail
          refine (HMT.out _ H6.out.has (HL.out.still H6.out.kept)).mono ?_
          rintro e w7 ⟨rfl, hb7, hk7⟩
          have H7 := Lib.hid (H6.out.acted HA.out hb7 hk7)
          clear hb7 hk7 e0 e1 e2 e3 e4
          obtain ⟨e0, e1, e2, e3, e4⟩ := H7.out.act
          obtain ⟨rfl, hbn⟩ | ⟨hn2, hzb⟩ := HBN.out
          · have HBM := Lib.hid hbn
            clear hbn HBN
            go_wp2_with fail
            refine (HBM.out w7 H7.out.has (HL.out.still H7.out.kept)).mono ?_
            rintro e w8 ⟨rfl, hb8, hk8⟩
            have H8 := Lib.hid (H7.out.acted HA.out hb8 hk8)
            clear hb8 hk8 e0 e1 e2 e3 e4
            go_wp2_with fail
            refine (Ents_any _ p m1 m2 z H8.out.has HZ.out.1 (HL.out.still H8.out.kept) HZ.out.2.2).mono ?_
            rintro e w9 ⟨v2, M2, rfl, hM2, hr2, -, hk9⟩
            have HSM := Lib.hid (SameTrue_any w9 v2 v1 M2 M1 hr2 (H8.out.reads.kept hk9 (fun _ _ h => h.elim)) (HZ.out.2.1.ents HZ.out.1 HB.out.1 hM2.1 HM1.out.1 hM2.2 HM1.out.2))
            have H9 := Lib.hid (H8.out.kept.trans hk9)
            clear hM2 hr2 hk9
            go_wp2_with fail
            refine HSM.out.mono ?_
            rintro e w10 ⟨rfl, hk10⟩
            go_wp2_with fail
            go_ret
            exact ⟨rfl, H9.out.trans hk10⟩
          · have H8 : Hid (BackAt w w7 p m1 m2 w.heap.size ⟨kd, f, t, d, m⟩ z v1 M1) := by rw [hzb]; exact H7.out
            clear hzb HBN
            go_wp2_with fail
            refine (Ents_any _ p m1 m2 z H8.out.has HZ.out.1 (HL.out.still H8.out.kept) HZ.out.2.2).mono ?_
            rintro e w9 ⟨v2, M2, rfl, hM2, hr2, -, hk9⟩
            have HSM := Lib.hid (SameTrue_any w9 v2 v1 M2 M1 hr2 (H8.out.reads.kept hk9 (fun _ _ h => h.elim)) (HZ.out.2.1.ents HZ.out.1 HB.out.1 hM2.1 HM1.out.1 hM2.2 HM1.out.2))
            have H9 := Lib.hid (H8.out.kept.trans hk9)
            clear hM2 hr2 hk9
            go_wp2_with fail
            refine HSM.out.mono ?_
            rintro e w10 ⟨rfl, hk10⟩
            go_wp2_with fail
            go_ret
            exact ⟨rfl, H9.out.trans hk10⟩
        · have H6 : Hid (BackAt w w5 p m1 m2 w.heap.size ⟨kd, f, t, d, m⟩ c v1 M1) := by rw [hcb]; exact H5.out
          clear hcb HBK
          go_wp2_with fail
          refine (HMT.out _ H6.out.has (HL.out.still H6.out.kept)).mono ?_
          rintro e w7 ⟨rfl, hb7, hk7⟩
          have H7 := Lib.hid (H6.out.acted HA.out hb7 hk7)
          clear hb7 hk7 e0 e1 e2 e3 e4
          obtain ⟨e0, e1, e2, e3, e4⟩ := H7.out.act
          obtain ⟨rfl, hbn⟩ | ⟨hn2, hzb⟩ := HBN.out
          · have HBM := Lib.hid hbn
            clear hbn HBN
            go_wp2_with fail
            refine (HBM.out w7 H7.out.has (HL.out.still H7.out.kept)).mono ?_
            rintro e w8 ⟨rfl, hb8, hk8⟩
            have H8 := Lib.hid (H7.out.acted HA.out hb8 hk8)
            clear hb8 hk8 e0 e1 e2 e3 e4
            go_wp2_with fail
            refine (Ents_any _ p m1 m2 z H8.out.has HZ.out.1 (HL.out.still H8.out.kept) HZ.out.2.2).mono ?_
            rintro e w9 ⟨v2, M2, rfl, hM2, hr2, -, hk9⟩
            have HSM := Lib.hid (SameTrue_any w9 v2 v1 M2 M1 hr2 (H8.out.reads.kept hk9 (fun _ _ h => h.elim)) (HZ.out.2.1.ents HZ.out.1 HB.out.1 hM2.1 HM1.out.1 hM2.2 HM1.out.2))
            have H9 := Lib.hid (H8.out.kept.trans hk9)
            clear hM2 hr2 hk9
            go_wp2_with fail
            refine HSM.out.mono ?_
            rintro e w10 ⟨rfl, hk10⟩
            go_wp2_with fail
            go_ret
            exact ⟨rfl, H9.out.trans hk10⟩
          · have H8 : Hid (BackAt w w7 p m1 m2 w.heap.size ⟨kd, f, t, d, m⟩ z v1 M1) := by rw [hzb]; exact H7.out
            clear hzb HBN
            go_wp2_with fail
            refine (Ents_any _ p m1 m2 z H8.out.has HZ.out.1 (HL.out.still H8.out.kept) HZ.out.2.2).mono ?_
            rintro e w9 ⟨v2, M2, rfl, hM2, hr2, -, hk9⟩
            have HSM := Lib.hid (SameTrue_any w9 v2 v1 M2 M1 hr2 (H8.out.reads.kept hk9 (fun _ _ h => h.elim)) (HZ.out.2.1.ents HZ.out.1 HB.out.1 hM2.1 HM1.out.1 hM2.2 HM1.out.2))
            have H9 := Lib.hid (H8.out.kept.trans hk9)
            clear hM2 hr2 hk9
            go_wp2_with fail
            refine HSM.out.mono ?_
            rintro e w10 ⟨rfl, hk10⟩
            go_wp2_with fail
            go_ret
            exact ⟨rfl, H9.out.trans hk10⟩
end Go.Proofs.YtjghnfnlhmhmkaaDoor
