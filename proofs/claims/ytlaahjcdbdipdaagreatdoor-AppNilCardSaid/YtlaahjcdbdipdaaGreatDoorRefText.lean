/- The document's side: which names, which denoms may be. -/
import Derived.Test.YtlaahjcdbdipdaaGreatDoorRun
import Derived.Test.YtlaahjcdbdipdaaGreatDoorSame
namespace Go.Proofs.YtlaahjcdbdipdaaGreatDoor
open Go Go.RowKit Go.MapKept Go.ChangeMaps

def lowB (b : UInt8) : Bool := decide (97 ≤ b.toNat) && decide (b.toNat ≤ 122)
theorem low_letters : ∀ b : UInt8, lettersS.data.toList.contains b = lowB b := by
  have h : ∀ i : Fin 256, lettersS.data.toList.contains (UInt8.ofFin i) = lowB (UInt8.ofFin i) := by decide +kernel
  intro b
  exact h b.toFin
theorem low_slashed : ∀ b : UInt8, slashedS.data.toList.contains b = (lowB b || decide (b.toNat = 47)) := by
  have h : ∀ i : Fin 256, slashedS.data.toList.contains (UInt8.ofFin i) = (lowB (UInt8.ofFin i) || decide ((UInt8.ofFin i).toNat = 47)) := by decide +kernel
  intro b
  exact h b.toFin
theorem acc_is (a : BA) : accB a = (decide (1 ≤ a.size) && decide (a.size ≤ 16) && a.data.toList.all lowB) := by
  unfold accB ofB allOf
  congr 1
  exact congrArg _ (funext low_letters)
theorem all_step {f : UInt8 → Bool} {a : BA} {k : Nat} (h : k < a.size) (hall : (a.data.toList.take k).all f = true) (hb : f (a[k]'h) = true) : (a.data.toList.take (k + 1)).all f = true := by
  have e : a.data.toList[k]? = some (a[k]'h) := List.getElem?_eq_getElem h
  rw [List.take_add_one, e, List.all_append, hall]
  simp [hb]
theorem all_stop {f : UInt8 → Bool} {a : BA} {k : Nat} (h : k < a.size) (hb : f (a[k]'h) = false) : a.data.toList.all f = false := by
  have e : a.data.toList[k]? = some (a[k]'h) := List.getElem?_eq_getElem h
  exact List.all_eq_false.2 ⟨_, List.mem_of_getElem? e, by rw [hb]; decide⟩
theorem all_done {f : UInt8 → Bool} {a : BA} {k : Nat} (h : ¬ k < a.size) (hall : (a.data.toList.take k).all f = true) : a.data.toList.all f = true := by
  rwa [List.take_of_length_le (by show a.size ≤ k; omega)] at hall
theorem low_yes {b : UInt8} (h1 : 97 ≤ b.toNat) (h2 : b.toNat ≤ 122) : lowB b = true := by unfold lowB; simp [h1, h2]
theorem low_not {b : UInt8} (h : ¬ (97 ≤ b.toNat ∧ b.toNat ≤ 122)) : lowB b = false := by
  unfold lowB
  by_cases h1 : 97 ≤ b.toNat
  · simp [show ¬ b.toNat ≤ 122 from fun h2 => h ⟨h1, h2⟩]
  · simp [h1]
theorem acc_no {a : BA} (h : a.data.toList.all lowB = false) : accB a = false := by rw [acc_is, h, Bool.and_false]
theorem acc_small {a : BA} (h : ¬ 1 ≤ a.size) : accB a = false := by rw [acc_is]; simp [h]
theorem acc_great {a : BA} (h : 16 < a.size) : accB a = false := by rw [acc_is]; simp [show ¬ a.size ≤ 16 by omega]
theorem acc_yes {a : BA} (h : a.data.toList.all lowB = true) (h1 : 1 ≤ a.size) (h2 : a.size ≤ 16) : accB a = true := by rw [acc_is, h]; simp [h1, h2]
set_option maxRecDepth 100000 in
set_option maxHeartbeats 1600000 in
theorem Name_any (w : World) (a : BA) (ha : a.size ≤ maxLen) : Calls Tryz.prog 85 #[.string a] w fun e w' => e = .returned (.bool (accB a)) ∧ w' = w := by
  unfold maxLen at ha
  obtain ⟨r, hr⟩ : ∃ r, accB a = r := ⟨_, rfl⟩
  rw [hr]
  have HR := Lib.hid hr; clear hr
  go_enter Tryz.func85, Tryz.ntmps85
  go_wp2_with fail
  go_loopw [3] (fun i wr => ∃ k : Nat, k ≤ a.size ∧ i = .int .i64 k ∧ Hid ((a.data.toList.take k).all lowB = true ∧ wr = w)) (fun i _ => a.size - (intOf i).toNat)
  case atStart => exact ⟨0, Nat.zero_le _, rfl, by simp, rfl⟩
  case round =>
    obtain ⟨k, hk, rfl, HK⟩ := hrel
    by_cases hlt : k < a.size
    · have hk0 : (0 : Int) ≤ (k : Int) := Int.natCast_nonneg _
      by_cases hlow : 97 ≤ (a[k]'hlt).toNat ∧ (a[k]'hlt).toNat ≤ 122
      · have HN := Lib.hid (And.intro (all_step hlt HK.out.1 (low_yes hlow.1 hlow.2)) HK.out.2)
        obtain ⟨h1, h2⟩ := hlow
        go_wp2_with fail
        exact ⟨⟨k + 1, by omega, by go_num, HN.out⟩, by simp [intOf]; omega⟩
      · have hF := acc_no (all_stop hlt (low_not hlow))
        rw [HR.out] at hF
        subst hF
        by_cases h1 : (a[k]'hlt).toNat < 97
        · clear hlow
          go_wp2_with fail
          go_ret
          exact ⟨rfl, HK.out.2⟩
        · have h2 : 122 < (a[k]'hlt).toNat := by omega
          clear hlow
          go_wp2_with fail
          go_ret
          exact ⟨rfl, HK.out.2⟩
    · by_cases h1 : 1 ≤ a.size
      · by_cases h2 : a.size ≤ 16
        · have hF := acc_yes (all_done hlt HK.out.1) h1 h2
          rw [HR.out] at hF
          subst hF
          go_wp2_with fail
          go_ret
          refine ⟨?_, HK.out.2⟩
          show Ending.returned (.bool (decide ((a.size : Int) ≤ 16))) = _
          rw [decide_eq_true (by omega)]
        · have h3 : 16 < a.size := by omega
          have hF := acc_great h3
          rw [HR.out] at hF
          subst hF
          clear h2
          go_wp2_with fail
          go_ret
          refine ⟨?_, HK.out.2⟩
          show Ending.returned (.bool (decide ((a.size : Int) ≤ 16))) = _
          rw [decide_eq_false (by omega)]
      · have hF := acc_small h1
        rw [HR.out] at hF
        subst hF
        have h2 : a.size < 1 := by omega
        clear h1
        go_wp2_with fail
        go_ret
        exact ⟨rfl, HK.out.2⟩
theorem den_is (d : BA) : denB d = (decide (1 ≤ d.size) && decide (d.size ≤ 40) && d.data.toList.all (fun b => lowB b || decide (b.toNat = 47)) && trimmed d) := by
  unfold denB ofB allOf
  congr 2
  exact congrArg _ (funext low_slashed)
theorem drop_self (l : List UInt8) : l.dropWhile (· == 47) = l ↔ l.head? ≠ some 47 := by
  cases l with
  | nil => simp
  | cons x t =>
    by_cases h : x = 47
    · subst h
      refine ⟨fun e => ?_, fun e => absurd rfl e⟩
      have h1 : ((47 : UInt8) :: t).dropWhile (· == 47) = t.dropWhile (· == 47) := by simp [List.dropWhile_cons]
      rw [h1] at e
      have := (List.dropWhile_suffix (l := t) (· == (47 : UInt8))).length_le
      rw [e, List.length_cons] at this
      omega
    · simp [List.dropWhile_cons, h]
theorem trim_iff (l : List UInt8) : Lib.trimB l 47 = l ↔ l.head? ≠ some 47 ∧ l.getLast? ≠ some 47 := by
  unfold Lib.trimB Lib.trimLeftB Lib.trimRightB
  have hr : l.reverse.head? = l.getLast? := List.head?_reverse
  constructor
  · intro h
    have l1 := (List.dropWhile_suffix (l := (l.reverse.dropWhile (· == (47 : UInt8))).reverse) (· == (47 : UInt8))).length_le
    rw [h, List.length_reverse] at l1
    have s2 := List.dropWhile_suffix (l := l.reverse) (· == (47 : UInt8))
    have e2 : l.reverse.dropWhile (· == 47) = l.reverse := s2.eq_of_length (Nat.le_antisymm s2.length_le (by rw [List.length_reverse]; exact l1))
    rw [e2, List.reverse_reverse] at h
    exact ⟨(drop_self l).1 h, by rw [← hr]; exact (drop_self _).1 e2⟩
  · rintro ⟨h1, h2⟩
    rw [(drop_self l.reverse).2 (by rw [hr]; exact h2), List.reverse_reverse, (drop_self l).2 h1]
theorem trimmed_is {d : BA} (h : 0 < d.size) : trimmed d = (decide ((d[0]'h).toNat ≠ 47) && decide ((d[d.size - 1]'(by omega)).toNat ≠ 47)) := by
  have e0 : d.data.toList.head? = some (d[0]'h) := by
    rw [List.head?_eq_getElem?]; exact List.getElem?_eq_getElem h
  have e1 : d.data.toList.getLast? = some (d[d.size - 1]'(by omega)) := by
    rw [List.getLast?_eq_getElem?]; exact List.getElem?_eq_getElem (by show d.size - 1 < d.size; omega)
  have hb : ∀ b : UInt8, b.toNat = 47 ↔ b = 47 := fun b => ⟨fun e => UInt8.toNat_inj.1 e, fun e => by rw [e]; rfl⟩
  have hd : ((⟨(Lib.trimB d.data.toList 47).toArray⟩ : BA) = d) ↔ Lib.trimB d.data.toList 47 = d.data.toList := by
    constructor
    · intro e
      have := congrArg (fun x : BA => x.data.toList) e
      simpa using this
    · intro e; rw [e]
  unfold trimmed
  rw [← Bool.decide_and]
  refine decide_eq_decide.2 (hd.trans ((trim_iff _).trans ?_))
  rw [e0, e1, Ne, Ne, Option.some.injEq, Option.some.injEq, ← hb, ← hb]
def slashB (b : UInt8) : Bool := lowB b || decide (b.toNat = 47)
theorem slash_yes {b : UInt8} (h : (97 ≤ b.toNat ∧ b.toNat ≤ 122) ∨ b.toNat = 47) : slashB b = true := by
  unfold slashB
  rcases h with h | h
  · rw [low_yes h.1 h.2]; rfl
  · simp [h]
theorem slash_not {b : UInt8} (h : ¬ ((97 ≤ b.toNat ∧ b.toNat ≤ 122) ∨ b.toNat = 47)) : slashB b = false := by
  unfold slashB
  rw [low_not (fun e => h (.inl e))]
  simp [show ¬ b.toNat = 47 from fun e => h (.inr e)]
theorem den_no {d : BA} (h : d.data.toList.all slashB = false) : denB d = false := by
  rw [den_is]
  show (_ && d.data.toList.all slashB && _) = false
  rw [h]; simp
theorem den_small {d : BA} (h : ¬ 1 ≤ d.size) : denB d = false := by rw [den_is]; simp [h]
theorem den_great {d : BA} (h : 40 < d.size) : denB d = false := by rw [den_is]; simp [show ¬ d.size ≤ 40 by omega]
theorem den_ends {d : BA} (h : d.data.toList.all slashB = true) (h1 : 0 < d.size) (h2 : d.size ≤ 40) : denB d = (decide ((d[0]'h1).toNat ≠ 47) && decide ((d[d.size - 1]'(by omega)).toNat ≠ 47)) := by
  rw [den_is]
  show (_ && d.data.toList.all slashB && _) = _
  rw [h, trimmed_is h1]
  simp [show 1 ≤ d.size from h1, h2]
set_option maxRecDepth 100000 in
set_option maxHeartbeats 3200000 in
theorem Denom_any (w : World) (a : BA) (ha : a.size ≤ maxLen) : Calls Tryz.prog 159 #[.string a] w fun e w' => e = .returned (.bool (denB a)) ∧ w' = w := by
  unfold maxLen at ha
  obtain ⟨r, hr⟩ : ∃ r, denB a = r := ⟨_, rfl⟩
  rw [hr]
  have HR := Lib.hid hr; clear hr
  go_enter Tryz.func159, Tryz.ntmps159
  go_wp2_with fail
  go_loopw [3] (fun i wr => ∃ k : Nat, k ≤ a.size ∧ i = .int .i64 k ∧ Hid ((a.data.toList.take k).all slashB = true ∧ wr = w)) (fun i _ => a.size - (intOf i).toNat)
  case atStart => exact ⟨0, Nat.zero_le _, rfl, by simp, rfl⟩
  case round =>
    obtain ⟨k, hk, rfl, HK⟩ := hrel
    by_cases hlt : k < a.size
    · have hk0 : (0 : Int) ≤ (k : Int) := Int.natCast_nonneg _
      by_cases hlow : (97 ≤ (a[k]'hlt).toNat ∧ (a[k]'hlt).toNat ≤ 122) ∨ (a[k]'hlt).toNat = 47
      · have HN := Lib.hid (And.intro (all_step hlt HK.out.1 (slash_yes hlow)) HK.out.2)
        rcases hlow with ⟨h1, h2⟩ | h1
        · go_wp2_with fail
          exact ⟨⟨k + 1, by omega, by go_num, HN.out⟩, by simp [intOf]; omega⟩
        · have h2 : (a[k]'hlt).toNat < 97 := by omega
          have h3 : (((a[k]'hlt).toNat : Int) != 47) = false := by rw [h1]; rfl
          clear h1
          go_wp2_with fail
          all_goals exact ⟨⟨k + 1, by omega, by go_num, HN.out⟩, by simp [intOf]; omega⟩
      · have hF := den_no (all_stop hlt (slash_not hlow))
        rw [HR.out] at hF
        subst hF
        have h3 : (((a[k]'hlt).toNat : Int) != 47) = true := by
          have : ¬ (a[k]'hlt).toNat = 47 := fun e => hlow (.inr e)
          simpa using fun e => this (by omega)
        by_cases h1 : (a[k]'hlt).toNat < 97
        · clear hlow
          go_wp2_with fail
          go_ret
          exact ⟨rfl, HK.out.2⟩
        · have h2 : 122 < (a[k]'hlt).toNat := by omega
          clear hlow
          go_wp2_with fail
          go_ret
          exact ⟨rfl, HK.out.2⟩
    · by_cases h1 : 1 ≤ a.size
      · by_cases h2 : a.size ≤ 40
        · have hF := den_ends (all_done hlt HK.out.1) h1 h2
          rw [HR.out] at hF
          by_cases h4 : (a[0]'h1).toNat = 47
          · have h5 : (((a[0]'h1).toNat : Int) != 47) = false := by rw [h4]; rfl
            have hF2 : r = false := by rw [hF, h4]; rfl
            subst hF2
            clear h4 hF
            go_wp2_with fail
            go_ret
            exact ⟨rfl, HK.out.2⟩
          · have h5 : (((a[0]'h1).toNat : Int) != 47) = true := by simpa using fun e => h4 (by omega)
            by_cases h6 : (a[a.size - 1]'(by omega)).toNat = 47
            · have h7 : (((a[a.size - 1]'(by omega)).toNat : Int) != 47) = false := by rw [h6]; rfl
              have hF2 : r = false := by rw [hF, h6]; simp
              subst hF2
              clear h4 h6 hF
              go_wp2_with fail
              go_ret
              exact ⟨rfl, HK.out.2⟩
            · have h7 : (((a[a.size - 1]'(by omega)).toNat : Int) != 47) = true := by simpa using fun e => h6 (by omega)
              have hF2 : r = true := by rw [hF]; simp [h4, h6]
              subst hF2
              clear h4 h6 hF
              go_wp2_with fail
              go_ret
              exact ⟨rfl, HK.out.2⟩
        · have h3 : 40 < a.size := by omega
          have hF := den_great h3
          rw [HR.out] at hF
          subst hF
          clear h2
          go_wp2_with fail
          go_ret
          exact ⟨rfl, HK.out.2⟩
      · have hF := den_small h1
        rw [HR.out] at hF
        subst hF
        have h2 : a.size < 1 := by omega
        clear h1
        go_wp2_with fail
        go_ret
        exact ⟨rfl, HK.out.2⟩
end Go.Proofs.YtlaahjcdbdipdaaGreatDoor
