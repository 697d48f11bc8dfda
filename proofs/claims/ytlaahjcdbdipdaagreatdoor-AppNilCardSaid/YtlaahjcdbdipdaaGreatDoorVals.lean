/- Validators in memory; the contracts of valset.sum and Right. -/
import Derived.Test.YtlaahjcdbdipdaaGreatDoorPow
import Derived.Test.YtlaahjcdbdipdaaGreatDoorActs
import Derived.Deep.QuietTactic
namespace Go.Proofs.YtlaahjcdbdipdaaGreatDoor
open Go Go.RowKit Go.MapKept Go.ChangeMaps

abbrev i64V (n : Int) : Value := .int .i64 n
/-- A validator: its key, its power. -/
abbrev Val := Nat × Int
def valC (v : Val) : List Value := [u64V v.1, i64V v.2]
def Val.Fit (v : Val) : Prop := v.1 ≤ 18446744073709551615 ∧ -9223372036854775808 ≤ v.2 ∧ v.2 ≤ 9223372036854775807
theorem add_none (g o n : Nat) : (⟨g, o, none⟩ : Addr).add n = ⟨g, o + n, none⟩ := by
  unfold Addr.add
  split
  · subst_vars; rfl
  · rfl
/-- A slice of validators. -/
def ValsAt (w : World) (v : Value) (l : List Val) : Prop :=
  ∃ a cap, v = .slice a l.length cap ∧ l.length ≤ maxLen ∧ l.length ≤ cap ∧ ∀ i x, l[i]? = some x → x.Fit ∧ ∃ g o, a = some ⟨g, o, none⟩ ∧ g < w.heap.size ∧ w.cell? ⟨g, o + i * 2, none⟩ = some (u64V x.1) ∧ w.cell? ⟨g, o + i * 2 + 1, none⟩ = some (i64V x.2)
theorem ValsAt.still {w w' : World} {v : Value} {l : List Val} (h : ValsAt w v l) (hk : Kept Nowhere w w') : ValsAt w' v l := by
  obtain ⟨a, cap, h1, h2, h3, h4⟩ := h
  refine ⟨a, cap, h1, h2, h3, fun i x hx => ?_⟩
  obtain ⟨hf, g, o, ha, hg, c0, c1⟩ := h4 i x hx
  exact ⟨hf, g, o, ha, Nat.lt_of_lt_of_le hg hk.size, (hk.cell (p := ⟨g, _, none⟩) hg id).trans c0, (hk.cell (p := ⟨g, _, none⟩) hg id).trans c1⟩

/-- The sum of all powers, from a beginning on. -/
def sumGo : Int → List Val → Int × Bool
  | n, [] => (n, true)
  | n, v :: r => if v.2 < 1 ∨ 1125899906842624 - n < v.2 then (0, false) else sumGo (n + v.2) r
theorem sumGo_step {n : Int} {l : List Val} {k : Nat} (h : k < l.length) : sumGo n (l.drop k) = if l[k].2 < 1 ∨ 1125899906842624 - n < l[k].2 then (0, false) else sumGo (n + l[k].2) (l.drop (k + 1)) := by
  rw [List.drop_eq_getElem_cons h]; rfl
set_option maxRecDepth 100000 in
set_option maxHeartbeats 1600000 in
theorem Sum_any (w : World) (v : Value) (l : List Val) (hv : ValsAt w v l) :
    Calls Tryz.prog 82 #[v] w fun e w' => e = .returned (.tuple #[i64V (sumGo 0 l).1, .bool (sumGo 0 l).2]) ∧ Kept Nowhere w w' := by
  obtain ⟨a, cap, rfl, hl, hcap, hat⟩ := hv
  obtain ⟨n, hn⟩ : ∃ n, l.length = n := ⟨_, rfl⟩
  rw [hn] at hl hcap ⊢
  unfold maxLen at hl
  obtain ⟨r, hr⟩ : ∃ r, sumGo 0 l = r := ⟨_, rfl⟩
  rw [hr]
  have HR := Lib.hid hr
  have HN := Lib.hid hn
  have HA := Lib.hid hat
  clear hr hat hn
  go_enter Tryz.func82, Tryz.ntmps82
  go_wp2_with fail
  go_loopw [4, 9] (fun s i wr => ∃ (k : Nat) (t : Int), k ≤ n ∧ i = .int .i64 k ∧ s = .int .i64 t ∧ 0 ≤ t ∧ t ≤ 1125899906842624 ∧ Hid (sumGo t (l.drop k) = r ∧ Kept Nowhere w wr)) (fun _ i _ => n - (iOf i).toNat)
  case atStart => exact ⟨0, 0, Nat.zero_le _, rfl, rfl, by omega, by omega, HR.out, Kept.refl _ _⟩
  case round =>
    obtain ⟨k, t, hk, rfl, rfl, ht0, ht1, HS⟩ := hrel
    by_cases hlt : k < n
    · have hk0 : (0 : Int) ≤ (k : Int) := Int.natCast_nonneg _
      obtain ⟨hf, g, o, rfl, hg, c0, c1⟩ := HA.out k _ (List.getElem?_eq_getElem (by rw [HN.out]; exact hlt))
      have hs := sumGo_step (n := t) (l := l) (k := k) (by rw [HN.out]; exact hlt)
      generalize l[k]'(by rw [HN.out]; exact hlt) = x at hf c0 c1 hs
      obtain ⟨key, pw⟩ := x
      obtain ⟨-, hp0, hp1⟩ := hf
      simp only at c0 c1 hs hp0 hp1
      have hadd := add_none g o (k * 2)
      have d0 := (HS.out.2.cell (p := ⟨g, _, none⟩) hg id).trans c0
      have d1 := (HS.out.2.cell (p := ⟨g, _, none⟩) hg id).trans c1
      clear c0 c1
      rw [HS.out.1] at hs
      by_cases h1 : pw < 1
      · rw [if_pos (Or.inl h1)] at hs
        have HS2 := Lib.hid (And.intro hs HS.out.2)
        clear hs HS
        go_wp2_with fail
        first | go_ret | go_ret2
        exact ⟨by rw [HS2.out.1]; rfl, HS2.out.2.alloc _⟩
      · by_cases h2 : 1125899906842624 - t < pw
        · rw [if_pos (Or.inr h2)] at hs
          have HS2 := Lib.hid (And.intro hs HS.out.2)
          clear hs HS
          go_wp2_with fail
          first | go_ret | go_ret2
          exact ⟨by rw [HS2.out.1]; rfl, HS2.out.2.alloc _⟩
        · rw [if_neg (by omega)] at hs
          have HS2 := Lib.hid (And.intro hs.symm (HS.out.2.alloc (.cells #[u64V key, i64V pw] 100)))
          clear hs HS
          go_wp2_with fail
          exact ⟨⟨k + 1, t + pw, by omega, by go_num, by go_num, by omega, by omega, HS2.out.1, HS2.out.2⟩, by simp [iOf]; omega⟩
    · obtain rfl : k = n := by omega
      have hs := HS.out.1
      rw [← HN.out, List.drop_length] at hs
      have HS2 := Lib.hid (And.intro hs HS.out.2)
      clear hs HS
      go_wp2_with fail
      first | go_ret | go_ret2
      exact ⟨by rw [← HS2.out.1]; rfl, HS2.out.2⟩
/-- Do the first k keys rise? -/
def upK (l : List Val) (k : Nat) : Bool := (List.range k).all fun i => decide (i = 0) || decide ((l.getD (i - 1) (0, 0)).1 < (l.getD i (0, 0)).1)
theorem upK_step (l : List Val) (k : Nat) : upK l (k + 1) = (upK l k && (decide (k = 0) || decide ((l.getD (k - 1) (0, 0)).1 < (l.getD k (0, 0)).1))) := by
  unfold upK; rw [List.range_succ, List.all_append]; simp
/-- May a set be? -/
def rightV (l : List Val) : Bool := (sumGo 0 l).2 && upK l l.length && decide (1 ≤ l.length) && decide (l.length ≤ 64)
theorem getD_of {l : List Val} {k : Nat} (h : k < l.length) : l.getD k (0, 0) = l[k] := by simp [h]
set_option maxRecDepth 100000 in
set_option maxHeartbeats 3200000 in
theorem Right_any (w : World) (v : Value) (l : List Val) (hv : ValsAt w v l) :
    Calls Tryz.prog 40 #[v] w fun e w' => e = .returned (.bool (rightV l)) ∧ Kept Nowhere w w' := by
  have HSum := Lib.hid (Sum_any w v l hv)
  obtain ⟨a, cap, rfl, hl, hcap, hat⟩ := hv
  obtain ⟨n, hn⟩ : ∃ n, l.length = n := ⟨_, rfl⟩
  rw [hn] at hl hcap HSum ⊢
  unfold maxLen at hl
  obtain ⟨sv, hsv⟩ : ∃ r, sumGo 0 l = r := ⟨_, rfl⟩
  obtain ⟨r, hr⟩ : ∃ r, rightV l = r := ⟨_, rfl⟩
  rw [hsv] at HSum
  rw [hr]
  have HR : Hid ((sv.2 && upK l n && decide (1 ≤ n) && decide (n ≤ 64)) = r) := Lib.hid (show _ = r by rw [← hr, ← hsv, ← hn]; rfl)
  have HN := Lib.hid hn
  have HA := Lib.hid hat
  obtain ⟨s1, s2⟩ := sv
  clear hr hat hn hsv
  go_enter Tryz.func40, Tryz.ntmps40
  go_wp2_with fail
  refine HSum.out.mono ?_
  rintro e w1 ⟨rfl, hk1⟩
  have HK1 := Lib.hid hk1
  clear hk1
  go_wp2_with fail
  go_loopw [4, 13] (fun s i wr => ∃ (k : Nat) (t : Bool), k ≤ n ∧ i = .int .i64 k ∧ s = .bool t ∧ Hid (t = (s2 && upK l k) ∧ Kept Nowhere w wr)) (fun _ i _ => n - (iOf i).toNat)
  case atStart => exact ⟨0, s2, Nat.zero_le _, rfl, rfl, by simp [upK], HK1.out⟩
  case round =>
    obtain ⟨k, t, hk, rfl, rfl, HS⟩ := hrel
    by_cases hlt : k < n
    · have hk0 : (0 : Int) ≤ (k : Int) := Int.natCast_nonneg _
      have hs := upK_step l k
      by_cases ht : t = true
      · subst ht
        rcases k with _ | j
        · have HS2 := Lib.hid (And.intro (show true = (s2 && upK l 1) by rw [hs]; rw [HS.out.1]; simp) HS.out.2)
          clear hs HS
          go_wp2_with fail
          go_quiet (fail)
          go_wp2_with fail
          exact ⟨⟨1, true, by omega, rfl, rfl, HS2.out.1, HS2.out.2.drewN _⟩, by simp [iOf]; omega⟩
        · obtain ⟨-, g, o, rfl, hg, c0, -⟩ := HA.out j _ (List.getElem?_eq_getElem (by rw [HN.out]; omega))
          obtain ⟨-, g', o', hgo, -, c1, -⟩ := HA.out (j + 1) _ (List.getElem?_eq_getElem (by rw [HN.out]; omega))
          simp only [Option.some.injEq, Addr.mk.injEq, and_true] at hgo
          obtain ⟨rfl, rfl⟩ := hgo
          have d0 := (HS.out.2.cell (p := ⟨g, _, none⟩) hg id).trans c0
          have d1 := (HS.out.2.cell (p := ⟨g, _, none⟩) hg id).trans c1
          rw [show j + 1 - 1 = j from rfl, getD_of (by rw [HN.out]; omega), getD_of (by rw [HN.out]; exact hlt)] at hs
          generalize (l[j]'(by rw [HN.out]; omega)).1 = k0 at d0 hs
          generalize (l[j + 1]'(by rw [HN.out]; exact hlt)).1 = k1 at d1 hs
          have hj0 : ((j : Int) + 1 == 0) = false := by simp; omega
          have hj1 : (0 : Int) ≤ (j : Int) := Int.natCast_nonneg _
          have hj2 : (j : Int) < (n : Int) := by omega
          have hj3 : (j : Int) + 1 < (n : Int) := by omega
          have hadd0 := add_none g o (j * 2)
          have hadd1 := add_none g o ((j + 1) * 2)
          clear c0 c1
          by_cases hlt2 : k0 < k1
          · have HS2 := Lib.hid (And.intro (show true = (s2 && upK l (j + 1 + 1)) by rw [hs, ← Bool.and_assoc, ← HS.out.1]; simp [hlt2]) HS.out.2)
            clear hs HS
            have hi : (k0 : Int) < (k1 : Int) := by omega
            go_wp2_with fail
            go_quiet (fail)
            go_wp2_with fail
            exact ⟨⟨j + 1 + 1, true, by omega, by go_num, rfl, HS2.out.1, HS2.out.2.drewN _⟩, by simp [iOf]; omega⟩
          · have HS2 := Lib.hid (And.intro (show false = (s2 && upK l (j + 1 + 1)) by rw [hs]; simp [hlt2]) HS.out.2)
            clear hs HS
            have hi : ¬ (k0 : Int) < (k1 : Int) := by omega
            go_wp2_with fail
            go_quiet (fail)
            go_wp2_with fail
            exact ⟨⟨j + 1 + 1, false, by omega, by go_num, rfl, HS2.out.1, HS2.out.2.drewN _⟩, by simp [iOf]; omega⟩
      · obtain rfl : t = false := by simpa using ht
        have HS2 := Lib.hid (And.intro (show false = (s2 && upK l (k + 1)) by rw [hs, ← Bool.and_assoc, ← HS.out.1]; rfl) HS.out.2)
        clear hs HS ht
        go_wp2_with fail
        go_quiet (fail)
        go_wp2_with fail
        exact ⟨⟨k + 1, false, by omega, by go_num, rfl, HS2.out.1, HS2.out.2.drewN _⟩, by simp [iOf]; omega⟩
    · obtain rfl : k = n := by omega
      have hr := HR.out
      rw [← HS.out.1] at hr
      subst hr
      have HS2 := Lib.hid HS.out.2
      clear HS HSum hlt
      by_cases ht : t = true
      · subst ht
        by_cases h1 : 1 ≤ k
        · have h1' : (1 : Int) ≤ (k : Int) := by omega
          go_wp2_with fail
          go_ret
          exact ⟨by simp [h1]; omega, HS2.out⟩
        · have h1' : ¬ (1 : Int) ≤ (k : Int) := by omega
          go_wp2_with fail
          go_ret
          exact ⟨by simp [h1], HS2.out⟩
      · obtain rfl : t = false := by simpa using ht
        go_wp2_with fail
        go_ret
        exact ⟨by simp, HS2.out⟩
end Go.Proofs.YtlaahjcdbdipdaaGreatDoor
