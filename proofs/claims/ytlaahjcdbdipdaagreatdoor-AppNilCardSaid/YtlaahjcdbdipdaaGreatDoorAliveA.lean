/- The live question of the app's laws: its contract. -/
import Derived.Test.YtlaahjcdbdipdaaGreatDoorAlive0
namespace Go.Proofs.YtlaahjcdbdipdaaGreatDoor
open Go Go.RowKit Go.MapKept Go.ChangeMaps Go.Sort

theorem alive_entsH (W : World) (p pb m1 m2 pc m : Nat) (tv : Value) (h : AppIs W p pb m1 m2 pc m tv aS bS (.pointer none) (.slice none 0 0) aliveB2 1 [] theSet) (hW : Laid W) :
    Calls Tryz.prog 17 #[ptr p] W fun e w' => ∃ g cap, e = .returned (.slice (some ⟨g, 0, none⟩) 2 cap) ∧ w'.cell? ⟨g, 2, none⟩ = some (.string ⟨#[98, 97, 110, 107, 47, 99, 111, 105, 110, 47, 98, 111, 98]⟩) ∧ w'.cell? ⟨g, 3, none⟩ = some (.string ⟨#[50]⟩) ∧ Kept Nowhere W w' :=
  (AppEntries_any W p pb m1 m2 pc m tv aS bS (.pointer none) (.slice none 0 0) aliveB2 1 [] theSet h hW alive_few alive_small (by decide)).mono fun e w' ⟨v, M, he, hp, hs, ho, hk⟩ => by
    have hM := alive_ents hp hs
    subst hM
    obtain ⟨g, cap, rfl, hb, hlt⟩ := ho.form (by decide)
    have hc := own_cells ho
    refine ⟨g, cap, he, ?_, ?_, hk⟩
    · have := hc 2 _ rfl
      rw [Addr.add_mid] at this
      exact this
    · have := hc 3 _ rfl
      rw [Addr.add_mid] at this
      exact this
theorem alive_newH (W : World) (v : Value) (h : ValsAt W v theSet) (hW : Laid W) :
    Calls Tryz.prog 10 #[.string ⟨#[97]⟩, .string ⟨#[98]⟩, v] W fun e w' => ∃ p, e = .returned (.tuple #[ptr p, i64V 0]) ∧ AppAt (fun k => W.heap.size ≤ k) w' p aS bS (.pointer none) (.slice none 0 0) BS.none 1 [] theSet ∧ Kept Nowhere W w' :=
  (AppNew_any W aS bS v theSet hW (by decide) (by decide) h).mono fun e w' hp => by
    unfold AppNewPost at hp
    rw [if_pos alive_right, if_pos alive_chan] at hp
    exact hp
theorem alive_grantH (W : World) (p pb m1 m2 pc m : Nat) (tv : Value) (h : AppIs W p pb m1 m2 pc m tv aS bS (.pointer none) (.slice none 0 0) BS.none 1 [] theSet) (hW : Laid W) :
    Calls Tryz.prog 12 #[ptr p, .string ⟨#[97, 110, 110]⟩, .string ⟨#[99, 111, 105, 110]⟩, .int .u64 7] W fun e w' => e = .returned (i64V 0) ∧ AppIs w' p pb m1 m2 pc m tv aS bS (.pointer none) (.slice none 0 0) aliveB1 1 [] theSet ∧ Kept (Maps2 m1 m2) W w' :=
  (Grant_any W p pb m1 m2 pc m tv aS bS (.pointer none) (.slice none 0 0) BS.none 1 [] theSet annS coinS 7 h hW (by decide) (by decide) (by decide)).mono fun e w' hp => by
    rw [alive_grant] at hp
    exact hp
theorem alive_runH (someW : World) : ∃ t : Array Value, (((((Tryz.zeroCells63.setIfInBounds 0 (.int .i64 1)).setIfInBounds 1 (.string ⟨#[97, 110, 110]⟩)).setIfInBounds 2 (.string ⟨#[98, 111, 98]⟩)).setIfInBounds 3 (.string ⟨#[99, 111, 105, 110]⟩)).setIfInBounds 4 (.int .u64 2)) = t ∧
    ∀ (W : World) (p pb m1 m2 pc m : Nat) (tv : Value), AppIs W p pb m1 m2 pc m tv aS bS (.pointer none) (.slice none 0 0) aliveB1 1 [] theSet → Laid W →
      Calls Tryz.prog 26 #[ptr p, .agg t, .int .i64 1, .float .f64 4607182418800017408] W fun e w' => e = .returned (i64V 0) ∧ Kept (fun k => k = p) W w' ∧ ∃ pb m1 m2 pc m tv, AppIs w' p pb m1 m2 pc m tv aS bS (.pointer none) (.slice none 0 0) aliveB2 1 [] theSet := by
  obtain ⟨t, ht, t1, t2, t3, t4, t5, t6, t7⟩ := tx_built annS bobS coinS 2 (by decide) (by decide) (by decide) (by decide)
  refine ⟨t.cells.toArray, ?_, fun W p pb m1 m2 pc m tv h hW => (Run_any W p pb m1 m2 pc m tv aS bS aliveB1 1 [] theSet t [] 1 4607182418800017408 h (by decide) ht (by rw [t6]; exact ⟨none, 0, rfl, Nat.zero_le _, Nat.le_refl _, fun i x hx => by simp at hx⟩) (by decide) hW hW.size).mono fun e w' hp => ?_⟩
  · have h2 : ∀ w : World, (Instr.build 63 #[(0, .int .i64 1), (1, .string ⟨#[97, 110, 110]⟩), (2, .string ⟨#[98, 111, 98]⟩), (3, .string ⟨#[99, 111, 105, 110]⟩), (4, .int .u64 2)]).run Tryz.prog w = .ok (.agg (((((Tryz.zeroCells63.setIfInBounds 0 (.int .i64 1)).setIfInBounds 1 (.string ⟨#[97, 110, 110]⟩)).setIfInBounds 2 (.string ⟨#[98, 111, 98]⟩)).setIfInBounds 3 (.string ⟨#[99, 111, 105, 110]⟩)).setIfInBounds 4 (.int .u64 2))) w := fun w => by kernel_rfl
    have h3 := (h2 (someW)).symm.trans (t7 someW)
    generalize (((((Tryz.zeroCells63.setIfInBounds 0 (.int .i64 1)).setIfInBounds 1 (.string ⟨#[97, 110, 110]⟩)).setIfInBounds 2 (.string ⟨#[98, 111, 98]⟩)).setIfInBounds 3 (.string ⟨#[99, 111, 105, 110]⟩)).setIfInBounds 4 (.int .u64 2)) = u at h3 ⊢
    simpa using h3
  unfold RanPost at hp
  rw [alive_run t1 t2 t3 t4 t5, if_pos rfl, if_pos rfl] at hp
  exact hp
set_option maxRecDepth 100000 in
set_option maxHeartbeats 3200000 in
theorem aliveA_any (w : World) (hL : Laid w) : Calls Tryz.prog 9 #[] w fun e w' => e = .returned (.bool true) ∧ Kept Nowhere w w' := by
  have hG := hL.size
  have HV := Lib.hid (validators_any w)
  have HN := Lib.hid alive_newH
  have HGr := Lib.hid alive_grantH
  obtain ⟨t, hb, hr⟩ := alive_runH w
  have HRun := Lib.hid hr
  have HEn := Lib.hid alive_entsH
  have HL := Lib.hid hL
  clear hr hL
  go_enter Tryz.func9, Tryz.ntmps9
  go_wp2_with fail
  refine HV.out.mono ?_
  rintro e w1 ⟨v, rfl, hv, hk1⟩
  have H1 := Lib.hid (And.intro hv (And.intro hk1 (HL.out.still hk1)))
  clear hv hk1
  go_wp2_with fail
  refine (HN.out w1 v H1.out.1 H1.out.2.2).mono ?_
  rintro e w2 ⟨p, rfl, ⟨pb, m1, m2, pc, m, tv, hi, f1, f2, f3, f4, f5, f6, f7⟩, hk2⟩
  have hsz := H1.out.2.1.size
  have hno : ∀ k, k < 8 → ¬ Maps2 m1 m2 k := fun k hk h => by unfold Maps2 at h; omega
  have H2 := Lib.hid (And.intro hi (And.intro (H1.out.2.1.trans hk2) (And.intro (H1.out.2.2.still hk2) (And.intro hno (And.intro f1 (And.intro f3 f4))))))
  clear hi hk2 f1 f2 f3 f4 f5 f6 f7 hno
  go_wp2_with fail
  refine (HGr.out w2 _ _ _ _ _ _ _ H2.out.1 H2.out.2.2.1).mono ?_
  rintro e w3 ⟨rfl, hi, hk3⟩
  have H3 := Lib.hid (And.intro hi (And.intro (H2.out.2.2.1.kept hk3 H2.out.2.2.2.1) hk3))
  clear hi hk3
  go_wp2_with fail
  refine (HRun.out w3 _ _ _ _ _ _ _ H3.out.1 H3.out.2.1).mono ?_
  rintro e w4 ⟨rfl, hk4, pb', n1, n2, pc', m', tv', hi⟩
  have H4 := Lib.hid (And.intro hi (And.intro (H3.out.2.1.kept hk4 (fun k hk h => by have := H2.out.2.2.2.2.1; omega)) hk4))
  clear hi hk4
  go_wp2_with fail
  refine (HEn.out w4 _ _ _ _ _ _ _ H4.out.1 H4.out.2.1).mono ?_
  rintro e w5 ⟨g, cap, rfl, x2, x3, hk5⟩
  have H5 := Lib.hid hk5
  clear hk5
  go_wp2_with fail
  go_ret
  refine ⟨rfl, ?_⟩
  have e1 : Kept (fun k => k = p ∨ Maps2 m1 m2 k) w2 w5 := ((H3.out.2.2.weaken (fun _ _ h => Or.inr h)).trans (H4.out.2.2.weaken (fun _ _ h => Or.inl h))).trans (H5.out.weaken (fun _ _ h => h.elim))
  have f := H2.out.2.2.2.2
  exact H2.out.2.1.andThen e1 (fun i hi h => by unfold Maps2 at h; omega)
end Go.Proofs.YtlaahjcdbdipdaaGreatDoor
