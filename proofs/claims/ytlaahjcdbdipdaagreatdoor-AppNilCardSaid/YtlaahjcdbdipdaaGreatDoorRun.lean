/- The bank's methods, each by one contract; an act at a bank; two lists of entries compared. -/
import Derived.Test.YtlaahjcdbdipdaaGreatDoorPure
namespace Go.Proofs.YtlaahjcdbdipdaaGreatDoor
open Go Go.RowKit Go.MapKept Go.ChangeMaps

/-- A bank in memory. -/
def Has (w : World) (p m1 m2 : Nat) (b : BS) : Prop := BankIs w p m1 m2 b.A b.S
def Maps2 (m1 m2 : Nat) : Nat → Prop := fun k => k = m1 ∨ k = m2
theorem kept_weak {w w' : World} (h : Kept Nowhere w w') (m1 m2 : Nat) : Kept (Maps2 m1 m2) w w' := h.weaken (fun _ _ h => h.elim)
/-- What a method leaves. -/
def Left (w : World) (p m1 m2 : Nat) (r : Int × BS) (e : Ending) (w' : World) : Prop := e = .returned (.int .i64 r.1) ∧ Has w' p m1 m2 r.2 ∧ Kept (Maps2 m1 m2) w w'
theorem Mint_any (w : World) (p m1 m2 : Nat) (b : BS) (to d : BA) (n : Nat) (h : Has w p m1 m2 b) (hg : Good b) (hL : Laid w) (hto : to.size ≤ maxLen) (hd : d.size ≤ maxLen) :
    Calls Tryz.prog 47 #[ptr p, .string to, .string d, u64V n] w (Left w p m1 m2 (mintF b to d n)) := by
  by_cases hc : checkV d n [to] = 0
  · have htop := hg.top d
    by_cases ho : top64 - b.sup d < n
    · have e : mintF b to d n = (182, b) := by unfold mintF; rw [if_neg (by simpa using hc), if_pos ho]
      rw [e]
      exact (Mint_over w p m1 m2 b.A b.S to d n h hL hto hd htop hc ho).mono fun _ w' ⟨he, hk⟩ => ⟨he, h.kept hk id id id, kept_weak hk _ _⟩
    · have e : mintF b to d n = (0, ⟨putA b.A (to, d) (b.bal to d + n), mput b.S d (b.sup d + n)⟩) := by unfold mintF; rw [if_neg (by simpa using hc), if_neg ho]
      rw [e]
      have hle := hg.bal_le to d
      have hs : supOf b.S d + n ≤ top64 := by unfold BS.sup at *; omega
      exact (Mint_ok w p m1 m2 b.A b.S to d n h hL hto hd hs (by unfold BS.sup BS.bal at *; omega) hc).mono fun _ w' ⟨he, hb, hk⟩ => ⟨he, hb, hk⟩
  · have e : mintF b to d n = (checkV d n [to], b) := by unfold mintF; rw [if_pos hc]
    rw [e]
    exact (Mint_not w p m1 m2 b.A b.S to d n _ h hL hto hd rfl (by simpa using hc)).mono fun _ w' ⟨he, hk⟩ => ⟨he, h.kept hk id id id, kept_weak hk _ _⟩
theorem Burn_any (w : World) (p m1 m2 : Nat) (b : BS) (a d : BA) (n : Nat) (h : Has w p m1 m2 b) (hg : Good b) (hL : Laid w) (hto : a.size ≤ maxLen) (hd : d.size ≤ maxLen) :
    Calls Tryz.prog 195 #[ptr p, .string a, .string d, u64V n] w (Left w p m1 m2 (burnF b a d n)) := by
  by_cases hc : checkV d n [a] = 0
  · by_cases ho : b.bal a d < n
    · have e : burnF b a d n = (181, b) := by unfold burnF; rw [if_neg (by simpa using hc), if_pos ho]
      rw [e]
      exact (Burn_few w p m1 m2 b.A b.S a d n h hL hto hd hc ho).mono fun _ w' ⟨he, hk⟩ => ⟨he, h.kept hk id id id, kept_weak hk _ _⟩
    · have e : burnF b a d n = (0, ⟨putA b.A (a, d) (b.bal a d - n), mput b.S d (b.sup d - n)⟩) := by unfold burnF; rw [if_neg (by simpa using hc), if_neg ho]
      rw [e]
      exact (Burn_ok w p m1 m2 b.A b.S a d n h hL hto hd hc (by unfold BS.bal at ho; omega) (hg.bal_le a d) (hg.top d)).mono fun _ w' ⟨he, hb, hk⟩ => ⟨he, hb, hk⟩
  · have e : burnF b a d n = (checkV d n [a], b) := by unfold burnF; rw [if_pos hc]
    rw [e]
    exact (Burn_not w p a d n _ hL hto hd rfl (by simpa using hc)).mono fun _ w' ⟨he, hk⟩ => ⟨he, h.kept hk id id id, kept_weak hk _ _⟩
theorem Move_any (w : World) (p m1 m2 : Nat) (b : BS) (a c d : BA) (n : Nat) (h : Has w p m1 m2 b) (hg : Good b) (hL : Laid w) (ha : a.size ≤ maxLen) (hcl : c.size ≤ maxLen) (hd : d.size ≤ maxLen) :
    Calls Tryz.prog 116 #[ptr p, .string a, .string c, .string d, u64V n] w (Left w p m1 m2 (moveF b a c d n)) := by
  by_cases hc : checkV d n [a, c] = 0
  · by_cases ho : b.bal a d < n
    · have e : moveF b a c d n = (181, b) := by unfold moveF; rw [if_neg (by simpa using hc), if_pos ho]
      rw [e]
      exact (Move_few w p m1 m2 b.A b.S a c d n h hL ha hcl hd hc ho).mono fun _ w' ⟨he, hk⟩ => ⟨he, h.kept hk id id id, kept_weak hk _ _⟩
    · have e : moveF b a c d n = (0, ⟨moveA b.A a c d n, b.S⟩) := by unfold moveF; rw [if_neg (by simpa using hc), if_neg ho]
      rw [e]
      exact (Move_ok w p m1 m2 b.A b.S a c d n h hL ha hcl hd hc (by unfold BS.bal at ho; omega) (by have := hg.bal_le a d; have := hg.top d; unfold BS.bal BS.sup at *; omega) (move_room hg (by omega))).mono
        fun _ w' ⟨he, hb, hk⟩ => ⟨he, hb, hk.weaken (fun _ _ h => Or.inl h)⟩
  · have e : moveF b a c d n = (checkV d n [a, c], b) := by unfold moveF; rw [if_pos hc]
    rw [e]
    exact (Move_not w p a c d n _ hL ha hcl hd rfl (by simpa using hc)).mono fun _ w' ⟨he, hk⟩ => ⟨he, h.kept hk id id id, kept_weak hk _ _⟩

end Go.Proofs.YtlaahjcdbdipdaaGreatDoor
