/- The document's numbers modulo a prime: the contracts of times, Power, Key. -/
import Derived.Test.YtlaahjcdbdipdaaGreatDoorBase
import Derived.Deep.LoopGhost
namespace Go.Proofs.YtlaahjcdbdipdaaGreatDoor
open Go Go.RowKit Go.MapKept Go.ChangeMaps

theorem half_step (b j : Nat) : b / 2 ^ j = 2 * (b / 2 ^ (j + 1)) + b / 2 ^ j % 2 := by
  have : b / 2 ^ (j + 1) = b / 2 ^ j / 2 := by rw [Nat.div_div_eq_div_mul, Nat.pow_succ]
  omega
theorem times_step (a b m j : Nat) : (2 * (a * (b / 2 ^ (j + 1)) % m) % m + (b / 2 ^ j % 2) * a) % m = a * (b / 2 ^ j) % m := by
  conv => rhs; rw [half_step b j, Nat.mul_add]
  rw [Nat.add_mod, Nat.mod_mod, ← Nat.add_mod, Nat.add_mod, Nat.mul_mod, Nat.mod_mod, ← Nat.mul_mod, ← Nat.add_mod]
  congr 1
  rw [Nat.mul_comm (b / 2 ^ j % 2) a, Nat.mul_left_comm]
theorem pow_step (x e P j : Nat) : (x ^ (e / 2 ^ (j + 1)) % P * (x ^ (e / 2 ^ (j + 1)) % P) % P) * x ^ (e / 2 ^ j % 2) % P = x ^ (e / 2 ^ j) % P := by
  conv => rhs; rw [half_step e j, Nat.pow_add, Nat.two_mul, Nat.pow_add]
  generalize x ^ (e / 2 ^ (j + 1)) = y
  generalize x ^ (e / 2 ^ j % 2) = z
  rw [← Nat.mul_mod, Nat.mod_mul_mod]
def iOf : Value → Int
  | .int _ x => x
  | _ => 0
theorem tmod_nat (a b : Nat) : ((a : Int)).tmod (b : Int) = ((a % b : Nat) : Int) := by rw [Int.tmod_eq_emod_of_nonneg (by omega)]; rfl
theorem wrap_nat {a : Nat} (h : a < 18446744073709551616) : IntKind.u64.wrap (a : Int) = (a : Int) := by rw [IntKind.wrap_u64]; omega
theorem bit_nat (y i : Nat) : (((y : Int) / 2 ^ i).tmod 2 == 1) = decide (y / 2 ^ i % 2 = 1) := by
  have h : ((y : Int) / 2 ^ i).tmod 2 = ((y / 2 ^ i % 2 : Nat) : Int) := by
    have := tmod_nat (y / 2 ^ i) 2
    push_cast at this ⊢
    exact this
  rw [h, Bool.eq_iff_iff, beq_iff_eq, decide_eq_true_eq]; exact ⟨fun h => Int.ofNat.inj h, fun h => congrArg Int.ofNat h⟩
set_option maxRecDepth 100000 in
set_option maxHeartbeats 1600000 in
theorem RefTimes_any (w : World) (a b m : Nat) (hm : 0 < m) (hm62 : m ≤ 4611686018427387904) :
    Calls Tryz.prog 192 #[u64V a, u64V b, u64V m] w fun e w' => e = .returned (u64V (a * b % m)) ∧ w = w' := by
  obtain ⟨x, hx⟩ : ∃ x, a % m = x := ⟨_, rfl⟩
  obtain ⟨y, hy⟩ : ∃ y, b % m = y := ⟨_, rfl⟩
  obtain ⟨r, hr⟩ : ∃ r, x * y % m = r := ⟨_, rfl⟩
  have hxm : x < m := hx ▸ Nat.mod_lt _ hm
  have hym : y < m := hy ▸ Nat.mod_lt _ hm
  rw [Nat.mul_mod, hx, hy, hr]
  have HR := Lib.hid hr
  have hxI : (a : Int) % (m : Int) = (x : Int) := by rw [← hx]; rfl
  have hyI : (b : Int) % (m : Int) = (y : Int) := by rw [← hy]; rfl
  clear hr hx hy
  go_enter Tryz.func192, Tryz.ntmps192
  go_wp2_with fail
  go_loopw [7, 8] (fun n k wr => ∃ j t : Nat, j ≤ 62 ∧ k = .int .i64 ((j : Int) - 1) ∧ n = u64V t ∧ Hid (t = x * (y / 2 ^ j) % m ∧ wr = w)) (fun _ k _ => (iOf k + 1).toNat)
  case atStart =>
    refine ⟨62, 0, Nat.le_refl _, rfl, rfl, ?_, rfl⟩
    have hb : y < 2 ^ 62 := Nat.lt_of_lt_of_le hym hm62
    rw [Nat.div_eq_of_lt hb]; simp
  case round =>
    obtain ⟨j, t, hj, rfl, rfl, HW⟩ := hrel
    rcases j with _ | i
    · have ht : t = r := by rw [HW.out.1, ← HR.out]; simp
      subst ht
      go_wp2_with fail
      go_ret
      exact ⟨rfl, HW.out.2.symm⟩
    · obtain ⟨t2, ht2⟩ : ∃ t2, 2 * t % m = t2 := ⟨_, rfl⟩
      have htm : t < m := by rw [HW.out.1]; exact Nat.mod_lt _ hm
      have h2 : 2 * (t : Int) % (m : Int) = (t2 : Int) := by rw [← ht2]; push_cast; rfl
      have ht2m : t2 < m := ht2 ▸ Nat.mod_lt _ hm
      have hs := Lib.hid (times_step x y m i)
      rw [← HW.out.1, ht2] at hs
      have hb := bit_nat y i
      have HW2 := HW.out.2
      clear HW ht2
      by_cases hbit : y / 2 ^ i % 2 = 1
      · rw [decide_eq_true hbit] at hb
        obtain ⟨t3, ht3⟩ : ∃ t3, (t2 + x) % m = t3 := ⟨_, rfl⟩
        have h3 : ((t2 : Int) + (x : Int)) % (m : Int) = (t3 : Int) := by rw [← ht3]; push_cast; rfl
        have hs2 : Hid (t3 = x * (y / 2 ^ i) % m ∧ wr = w) := by
          have h := hs.out
          rw [hbit, Nat.one_mul, ht3] at h
          exact ⟨h, HW2⟩
        clear hs ht3 HW2
        go_wp2_with fail
        exact ⟨⟨i, t3, by omega, rfl, congrArg (Value.int .u64) h3, hs2.out⟩, by simp [iOf]⟩
      · rw [decide_eq_false hbit] at hb
        have hs2 : Hid (t2 = x * (y / 2 ^ i) % m ∧ wr = w) := by
          have h := hs.out
          rw [show y / 2 ^ i % 2 = 0 by omega, Nat.zero_mul, Nat.add_zero, Nat.mod_eq_of_lt ht2m] at h
          exact ⟨h, HW2⟩
        clear hs HW2
        go_wp2_with fail
        exact ⟨⟨i, t2, by omega, rfl, congrArg (Value.int .u64) h2, hs2.out⟩, by simp [iOf]⟩
/-- The prime. -/
def primeN : Nat := 2305843009213693951
set_option maxRecDepth 100000 in
set_option maxHeartbeats 1600000 in
theorem RefPower_any (w : World) (x e : Nat) (he : e < 18446744073709551616) :
    Calls Tryz.prog 150 #[u64V x, u64V e] w fun en w' => en = .returned (u64V (x ^ e % primeN)) ∧ w = w' := by
  obtain ⟨r, hr⟩ : ∃ r, x ^ e % primeN = r := ⟨_, rfl⟩
  rw [hr]
  have HR := Lib.hid hr
  have HE := Lib.hid he
  have HT := Lib.hid (fun (W : World) (a b : Nat) => RefTimes_any W a b primeN (by decide) (by decide))
  clear hr he
  go_enter Tryz.func150, Tryz.ntmps150
  go_wp2_with fail
  go_loopw [5, 6] (fun n k wr => ∃ j t : Nat, j ≤ 64 ∧ k = .int .i64 ((j : Int) - 1) ∧ n = u64V t ∧ Hid (t = x ^ (e / 2 ^ j) % primeN ∧ wr = w)) (fun _ k _ => (iOf k + 1).toNat)
  case atStart =>
    refine ⟨64, 1, Nat.le_refl _, rfl, rfl, ?_, rfl⟩
    rw [Nat.div_eq_of_lt (by exact HE.out)]; rfl
  case round =>
    obtain ⟨j, t, hj, rfl, rfl, HW⟩ := hrel
    rcases j with _ | i
    · have ht : t = r := by rw [HW.out.1, ← HR.out]; simp
      subst ht
      go_wp2_with fail
      go_ret
      exact ⟨rfl, HW.out.2.symm⟩
    · obtain ⟨t2, ht2⟩ : ∃ t2, t * t % primeN = t2 := ⟨_, rfl⟩
      have h2 := Lib.hid ht2
      have hs := Lib.hid (pow_step x e primeN i)
      rw [← HW.out.1, ht2] at hs
      have hb := bit_nat e i
      obtain rfl : wr = w := HW.out.2
      clear HW ht2
      go_wp2_with fail
      refine (HT.out wr t t).mono ?_
      rintro en w' ⟨rfl, rfl⟩
      rw [h2.out]
      by_cases hbit : e / 2 ^ i % 2 = 1
      · rw [decide_eq_true hbit] at hb
        go_wp2_with fail
        refine (HT.out wr t2 x).mono ?_
        rintro en w' ⟨rfl, rfl⟩
        have hs2 : Hid (t2 * x % primeN = x ^ (e / 2 ^ i) % primeN ∧ wr = wr) := by
          have h := hs.out
          rw [hbit, Nat.pow_one] at h
          exact ⟨h, rfl⟩
        clear hs
        go_wp2_with fail
        exact ⟨⟨i, _, by omega, rfl, rfl, hs2.out⟩, by simp [iOf]⟩
      · rw [decide_eq_false hbit] at hb
        have hs2 : Hid (t2 = x ^ (e / 2 ^ i) % primeN ∧ wr = wr) := by
          have h := hs.out
          rw [show e / 2 ^ i % 2 = 0 by omega, Nat.pow_zero, Nat.mul_one, ← h2.out, Nat.mod_mod] at h
          exact ⟨h2.out.symm.trans h, rfl⟩
        clear hs
        go_wp2_with fail
        exact ⟨⟨i, t2, by omega, rfl, rfl, hs2.out⟩, by simp [iOf]⟩
/-- A secret's key. -/
def keyN (n : Nat) : Nat := 37 ^ n % primeN
set_option maxRecDepth 100000 in
theorem RefKey_any (w : World) (n : Nat) (h1 : 1 ≤ n) (h2 : n ≤ 2305843009213693949) :
    Calls Tryz.prog 81 #[u64V n] w fun en w' => en = .returned (.tuple #[u64V (keyN n), .int .i64 0]) ∧ w = w' := by
  have HP := Lib.hid (RefPower_any w 37 n (by omega))
  have h1' : (1 : Int) ≤ (n : Int) := by omega
  have h2' : (n : Int) ≤ 2305843009213693949 := by omega
  have HRi : Hid (Calls Tryz.prog 149 #[u64V n] w fun en w' => en = .returned (.bool true) ∧ w = w') := by
    show Calls _ _ _ _ _
    go_enter Tryz.func149, Tryz.ntmps149
    go_wp2_with fail
    go_ret
    exact ⟨by first | (simp; done) | (simp; omega), rfl⟩
  go_enter Tryz.func81, Tryz.ntmps81
  go_wp2_with fail
  refine HRi.out.mono ?_
  rintro en w' ⟨rfl, rfl⟩
  go_wp2_with fail
  refine HP.out.mono ?_
  rintro en w' ⟨rfl, rfl⟩
  go_wp2_with fail
  first | go_ret | go_ret2
  exact ⟨rfl, rfl⟩
end Go.Proofs.YtlaahjcdbdipdaaGreatDoor
