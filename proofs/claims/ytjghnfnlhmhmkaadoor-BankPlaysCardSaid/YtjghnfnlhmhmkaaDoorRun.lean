/- The bank's methods, each by one contract; an act at a bank; two lists of entries compared. -/
import Derived.Test.YtjghnfnlhmhmkaaDoorPure
namespace Go.Proofs.YtjghnfnlhmhmkaaDoor
open Go Go.RowKit Go.MapKept Go.ChangeMaps

/-- A bank in memory. -/
def Has (w : World) (p m1 m2 : Nat) (b : BS) : Prop := BankIs w p m1 m2 b.A b.S
def Maps2 (m1 m2 : Nat) : Nat → Prop := fun k => k = m1 ∨ k = m2
theorem kept_weak {w w' : World} (h : Kept Nowhere w w') (m1 m2 : Nat) : Kept (Maps2 m1 m2) w w' := h.weaken (fun _ _ h => h.elim)
/-- What a method leaves. -/
def Left (w : World) (p m1 m2 : Nat) (r : Int × BS) (e : Ending) (w' : World) : Prop := e = .returned (.int .i64 r.1) ∧ Has w' p m1 m2 r.2 ∧ Kept (Maps2 m1 m2) w w'
theorem Mint_any (w : World) (p m1 m2 : Nat) (b : BS) (to d : BA) (n : Nat) (h : Has w p m1 m2 b) (hg : Good b) (hL : Laid w) (hto : to.size ≤ maxLen) (hd : d.size ≤ maxLen) :
    Calls Tryd.prog 16 #[ptr p, .string to, .string d, u64V n] w (Left w p m1 m2 (mintF b to d n)) := by
  by_cases hc : checkV d n [to] = 0
  · have htop := hg.top d
    by_cases ho : top64 - b.sup d < n
    · have e : mintF b to d n = (182, b) := by unfold mintF; rw [if_neg (by simpa using hc), if_pos ho]
      rw [e]
      exact (Mint_over w p m1 m2 b.A b.S to d n h hL hto hd htop hc ho).mono fun _ w' ⟨he, hk⟩ => ⟨he, h.kept hk id id id, kept_weak hk _ _⟩
    · have e : mintF b to d n = (0, ⟨putA b.A (to, d) (b.bal to d + n), mput b.S d (b.sup d + n)⟩) := by unfold mintF; rw [if_neg (by simpa using hc), if_neg ho]
      rw [e]
      have hle := hg.bal_le to d
      have hs : supOf b.S d + n ≤ top64 := by unfold BS.sup at *; omega
      exact (Mint_ok w p m1 m2 b.A b.S to d n h hL hto hd hs (by unfold BS.sup BS.bal at *; omega) hc).mono fun _ w' ⟨he, hb, hk⟩ => ⟨he, hb, hk⟩
  · have e : mintF b to d n = (checkV d n [to], b) := by unfold mintF; rw [if_pos hc]
    rw [e]
    exact (Mint_not w p m1 m2 b.A b.S to d n _ h hL hto hd rfl (by simpa using hc)).mono fun _ w' ⟨he, hk⟩ => ⟨he, h.kept hk id id id, kept_weak hk _ _⟩
theorem Burn_any (w : World) (p m1 m2 : Nat) (b : BS) (a d : BA) (n : Nat) (h : Has w p m1 m2 b) (hg : Good b) (hL : Laid w) (hto : a.size ≤ maxLen) (hd : d.size ≤ maxLen) :
    Calls Tryd.prog 17 #[ptr p, .string a, .string d, u64V n] w (Left w p m1 m2 (burnF b a d n)) := by
  by_cases hc : checkV d n [a] = 0
  · by_cases ho : b.bal a d < n
    · have e : burnF b a d n = (181, b) := by unfold burnF; rw [if_neg (by simpa using hc), if_pos ho]
      rw [e]
      exact (Burn_few w p m1 m2 b.A b.S a d n h hL hto hd hc ho).mono fun _ w' ⟨he, hk⟩ => ⟨he, h.kept hk id id id, kept_weak hk _ _⟩
    · have e : burnF b a d n = (0, ⟨putA b.A (a, d) (b.bal a d - n), mput b.S d (b.sup d - n)⟩) := by unfold burnF; rw [if_neg (by simpa using hc), if_neg ho]
      rw [e]
      exact (Burn_ok w p m1 m2 b.A b.S a d n h hL hto hd hc (by unfold BS.bal at ho; omega) (hg.bal_le a d) (hg.top d)).mono fun _ w' ⟨he, hb, hk⟩ => ⟨he, hb, hk⟩
  · have e : burnF b a d n = (checkV d n [a], b) := by unfold burnF; rw [if_pos hc]
    rw [e]
    exact (Burn_not w p a d n _ hL hto hd rfl (by simpa using hc)).mono fun _ w' ⟨he, hk⟩ => ⟨he, h.kept hk id id id, kept_weak hk _ _⟩
theorem Move_any (w : World) (p m1 m2 : Nat) (b : BS) (a c d : BA) (n : Nat) (h : Has w p m1 m2 b) (hg : Good b) (hL : Laid w) (ha : a.size ≤ maxLen) (hcl : c.size ≤ maxLen) (hd : d.size ≤ maxLen) :
    Calls Tryd.prog 15 #[ptr p, .string a, .string c, .string d, u64V n] w (Left w p m1 m2 (moveF b a c d n)) := by
  by_cases hc : checkV d n [a, c] = 0
  · by_cases ho : b.bal a d < n
    · have e : moveF b a c d n = (181, b) := by unfold moveF; rw [if_neg (by simpa using hc), if_pos ho]
      rw [e]
      exact (Move_few w p m1 m2 b.A b.S a c d n h hL ha hcl hd hc ho).mono fun _ w' ⟨he, hk⟩ => ⟨he, h.kept hk id id id, kept_weak hk _ _⟩
    · have e : moveF b a c d n = (0, ⟨moveA b.A a c d n, b.S⟩) := by unfold moveF; rw [if_neg (by simpa using hc), if_neg ho]
      rw [e]
      exact (Move_ok w p m1 m2 b.A b.S a c d n h hL ha hcl hd hc (by unfold BS.bal at ho; omega) (by have := hg.bal_le a d; have := hg.top d; unfold BS.bal BS.sup at *; omega) (move_room hg (by omega))).mono
        fun _ w' ⟨he, hb, hk⟩ => ⟨he, hb, hk.weaken (fun _ _ h => Or.inl h)⟩
  · have e : moveF b a c d n = (checkV d n [a, c], b) := by unfold moveF; rw [if_pos hc]
    rw [e]
    exact (Move_not w p a c d n _ hL ha hcl hd rfl (by simpa using hc)).mono fun _ w' ⟨he, hk⟩ => ⟨he, h.kept hk id id id, kept_weak hk _ _⟩

/-! ### an act -/
/-- An act of a script. -/
structure ActS where
  kind : Int
  from_ : BA
  to : BA
  denom : BA
  n : Nat
/-- Its cells. -/
def ActS.cells (a : ActS) : List Value := [.int .i64 a.kind, .string a.from_, .string a.to, .string a.denom, u64V a.n]
/-- It may be asked about. -/
structure ActS.Fit (a : ActS) : Prop where
  from_ : a.from_.size ≤ maxLen
  to : a.to.size ≤ maxLen
  denom : a.denom.size ≤ maxLen
  n : a.n ≤ top64
def actF (b : BS) (a : ActS) : Int × BS :=
  if a.kind = 1 then mintF b a.to a.denom a.n
  else if a.kind = 2 then burnF b a.from_ a.denom a.n
  else if a.kind = 3 then moveF b a.from_ a.to a.denom a.n
  else (0, b)
theorem good_act {b : BS} (h : Good b) (a : ActS) : Good (actF b a).2 := by
  unfold actF
  split
  · exact good_mint h _ _ _
  · split
    · exact good_burn h _ _ _
    · split
      · exact good_move h _ _ _ _
      · exact h
set_option maxRecDepth 100000 in
set_option maxHeartbeats 800000 in
theorem do_any (w : World) (p m1 m2 : Nat) (b : BS) (a : ActS) (h : Has w p m1 m2 b) (hg : Good b) (hL : Laid w) (hf : a.Fit) :
    Calls Tryd.prog 12 #[.agg a.cells.toArray, ptr p] w (Left w p m1 m2 (actF b a)) := by
  obtain ⟨k, fr, to, d, n⟩ := a
  obtain ⟨h1, h2, h3, h4⟩ := hf
  simp only at h1 h2 h3 h4
  have hbk : ∀ o, Has (w.alloc o) p m1 m2 b := fun o => BankIs.alloc h o
  have HM := Lib.hid (fun o => Mint_any (w.alloc o) p m1 m2 b to d n (hbk o) hg (hL.alloc o) h2 h3)
  have HBu := Lib.hid (fun o => Burn_any (w.alloc o) p m1 m2 b fr d n (hbk o) hg (hL.alloc o) h1 h3)
  have HMo := Lib.hid (fun o => Move_any (w.alloc o) p m1 m2 b fr to d n (hbk o) hg (hL.alloc o) h1 h2 h3)
  have HK : Hid (∀ o, Kept (Maps2 m1 m2) w (w.alloc o)) := fun o => (Kept.refl _ _).alloc o
  have HH := Lib.hid hbk
  clear hbk h hg hL h1 h2 h3 h4
  by_cases k1 : k = 1
  · have e : actF b ⟨k, fr, to, d, n⟩ = mintF b to d n := by unfold actF; rw [if_pos k1]
    rw [e]; clear e
    subst k1
    generalize mintF b to d n = r at HM ⊢
    go_enter Tryd.func12, Tryd.ntmps12
    unfold ActS.cells
    go_wp2_with fail
    refine (HM.out _).mono ?_
    rintro e w1 ⟨rfl, hb1, hk1⟩
    have HR := Lib.hid (And.intro hb1 hk1); clear hb1 hk1
    go_wp2_with fail
    go_ret
    exact ⟨rfl, HR.out.1, (HK.out _).trans HR.out.2⟩
  · by_cases k2 : k = 2
    · have e : actF b ⟨k, fr, to, d, n⟩ = burnF b fr d n := by unfold actF; rw [if_neg k1, if_pos k2]
      rw [e]; clear e k1
      subst k2
      generalize burnF b fr d n = r at HBu ⊢
      go_enter Tryd.func12, Tryd.ntmps12
      unfold ActS.cells
      go_wp2_with fail
      refine (HBu.out _).mono ?_
      rintro e w1 ⟨rfl, hb1, hk1⟩
      have HR := Lib.hid (And.intro hb1 hk1); clear hb1 hk1
      go_wp2_with fail
      go_ret
      exact ⟨rfl, HR.out.1, (HK.out _).trans HR.out.2⟩
    · by_cases k3 : k = 3
      · have e : actF b ⟨k, fr, to, d, n⟩ = moveF b fr to d n := by unfold actF; rw [if_neg k1, if_neg k2, if_pos k3]
        rw [e]; clear e k1 k2
        subst k3
        generalize moveF b fr to d n = r at HMo ⊢
        go_enter Tryd.func12, Tryd.ntmps12
        unfold ActS.cells
        go_wp2_with fail
        refine (HMo.out _).mono ?_
        rintro e w1 ⟨rfl, hb1, hk1⟩
        have HR := Lib.hid (And.intro hb1 hk1); clear hb1 hk1
        go_wp2_with fail
        go_ret
        exact ⟨rfl, HR.out.1, (HK.out _).trans HR.out.2⟩
      · have e : actF b ⟨k, fr, to, d, n⟩ = (0, b) := by unfold actF; rw [if_neg k1, if_neg k2, if_neg k3]
        rw [e]; clear e
        have b1 : (k == 1) = false := by simpa using k1
        have b2 : (k == 2) = false := by simpa using k2
        have b3 : (k == 3) = false := by simpa using k3
        clear k1 k2 k3
        go_enter Tryd.func12, Tryd.ntmps12
        unfold ActS.cells
        go_wp2_with fail
        go_ret
        exact ⟨rfl, HH.out _, HK.out _⟩
end Go.Proofs.YtjghnfnlhmhmkaaDoor
