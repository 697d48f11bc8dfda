/- The document's digits of a number. -/
import Derived.Test.YtjghnfnlhmhmkaaDoorRefActs
import Derived.Lib.ItoaLen
namespace Go.Proofs.YtjghnfnlhmhmkaaDoor
open Go Go.RowKit Go.MapKept Go.ChangeMaps

/-- What stands in the loop: the rest of the number, and its digits so far. -/
def DigAt (n m : Nat) (t : BA) : Prop := (t = ⟨#[]⟩ ∧ m = n) ∨ (t ≠ ⟨#[]⟩ ∧ Lib.decDigits n = (if m = 0 then [] else Lib.decDigits m) ++ t.data.toList)
theorem dec_step (m : Nat) : Lib.decDigits m = (if m / 10 = 0 then [] else Lib.decDigits (m / 10)) ++ [UInt8.ofNat (48 + m % 10)] := by
  rw [Lib.decDigits]
  by_cases h : m < 10
  · rw [dif_pos h, if_pos (by omega), show m % 10 = m by omega]; rfl
  · rw [dif_neg h, if_neg (by omega)]
theorem digit_text : ∀ k : Fin 10, (({ data := #[48, 49, 50, 51, 52, 53, 54, 55, 56, 57] } : BA).extract k.val (k.val + 1)).data.toList = [UInt8.ofNat (48 + k.val)] := by decide +kernel
theorem digit_list (m : Nat) (t : BA) : (({ data := #[48, 49, 50, 51, 52, 53, 54, 55, 56, 57] } : BA).extract (m % 10) (m % 10 + 1) ++ t).data.toList = UInt8.ofNat (48 + m % 10) :: t.data.toList := by
  have h := digit_text ⟨m % 10, by omega⟩
  simp only at h
  rw [ByteArray.data_append, Array.toList_append, h]
  rfl
theorem not_empty {t : BA} {b : UInt8} {l : List UInt8} (h : t.data.toList = b :: l) : t ≠ ⟨#[]⟩ := fun e => by rw [e] at h; cases h
theorem dig_next {n m : Nat} {t : BA} (h : DigAt n m t) (hm : 0 < m ∨ t = ⟨#[]⟩) : DigAt n (m / 10) (({ data := #[48, 49, 50, 51, 52, 53, 54, 55, 56, 57] } : BA).extract (m % 10) (m % 10 + 1) ++ t) := by
  have hl := digit_list m t
  refine .inr ⟨not_empty hl, ?_⟩
  rw [hl]
  rcases h with ⟨ht, rfl⟩ | ⟨ht, he⟩
  · rw [ht, dec_step m]
  · have h0 : ¬ m = 0 := by rcases hm with h | h; omega; exact absurd h ht
    rw [he, if_neg h0, dec_step m]; simp
theorem dig_end {n m : Nat} {t : BA} (h : DigAt n m t) (hm : m = 0) (ht : t ≠ ⟨#[]⟩) : digitsOf n = t := by
  rcases h with ⟨h, _⟩ | ⟨_, he⟩
  · exact absurd h ht
  · rw [if_pos hm, List.nil_append] at he
    exact bytes_ext (by show (Lib.decDigits n).toArray.toList = _; rw [he])
theorem dig_size {n m : Nat} {t : BA} (h : DigAt n m t) (hn : n ≤ top64) : t.size ≤ 20 := by
  rcases h with ⟨rfl, _⟩ | ⟨_, he⟩
  · decide
  · have h1 := congrArg List.length he
    have h2 := Lib.nDigits_le20 n (by unfold top64 at hn; omega)
    rw [Lib.decDigits_length, List.length_append] at h1
    have h3 : t.data.toList.length = t.size := rfl
    omega
def left_ (u s : Value) : Nat := (intOf u).toNat + (match s with | .string t => if t.size = 0 then 1 else 0 | _ => 0)
theorem left_size {t : BA} (h : t ≠ ⟨#[]⟩) : ¬ t.size = 0 := fun e => h (by
  obtain ⟨⟨l⟩⟩ := t
  have : l.length = 0 := e
  rw [List.eq_nil_of_length_eq_zero this])
set_option maxRecDepth 100000 in
set_option maxHeartbeats 1600000 in
theorem RefDigits_any (w : World) (n : Nat) (hn : n ≤ top64) :
    Calls Tryd.prog 35 #[u64V n] w fun e w' => e = .returned (.string (digitsOf n)) ∧ w = w' := by
  have HNT := Lib.hid hn
  unfold top64 at hn
  obtain ⟨r, hr⟩ : ∃ r, digitsOf n = r := ⟨_, rfl⟩
  rw [hr]
  have HR := Lib.hid hr
  clear hr
  go_enter Tryd.func35, Tryd.ntmps35
  go_wp2_with fail
  go_loopw [0, 3] (fun u s wr => ∃ (m : Nat) (t : BA), m ≤ n ∧ u = u64V m ∧ s = .string t ∧ t.size ≤ 20 ∧ Hid (wr = w ∧ DigAt n m t)) (fun u s _ => left_ u s)
  case atStart => exact ⟨n, ⟨#[]⟩, Nat.le_refl _, rfl, rfl, by decide, rfl, .inl ⟨rfl, rfl⟩⟩
  case round =>
    obtain ⟨m, t, hm, rfl, rfl, ht, HD⟩ := hrel
    have HX : Hid (∀ (_ : 0 < m ∨ t = ⟨#[]⟩), ∃ (m' : Nat) (t' : BA), m' ≤ n ∧ Value.int .u64 ((m : Int) / 10) = u64V m' ∧ Value.string (({ data := #[48, 49, 50, 51, 52, 53, 54, 55, 56, 57] } : BA).extract (m % 10) (m % 10 + 1) ++ t) = .string t' ∧ t'.size ≤ 20 ∧ Hid (wr = w ∧ DigAt n m' t')) := fun h => by
      have hd := dig_next HD.out.2 h
      exact ⟨m / 10, _, by omega, by unfold u64V; congr 1, rfl, dig_size hd HNT.out, HD.out.1, hd⟩
    have HY : Hid (∀ (h : 0 < m ∨ t = ⟨#[]⟩), left_ (.int .u64 ((m : Int) / 10)) (.string (({ data := #[48, 49, 50, 51, 52, 53, 54, 55, 56, 57] } : BA).extract (m % 10) (m % 10 + 1) ++ t)) < left_ (u64V m) (.string t)) := fun h => by
      have hs := left_size (not_empty (digit_list m t))
      unfold left_ u64V
      simp only [if_neg hs, intOf]
      rcases h with h | h
      · have : ((m : Int) / 10).toNat < ((m : Int)).toNat := by omega
        omega
      · subst h
        have : ((m : Int) / 10).toNat ≤ ((m : Int)).toNat := by omega
        rw [if_pos (show (⟨#[]⟩ : BA).size = 0 from rfl)]
        omega
    by_cases h0 : 0 < m
    · go_wp2_with fail
      exact ⟨HX.out (.inl h0), HY.out (.inl h0)⟩
    · obtain rfl : m = 0 := by omega
      by_cases h1 : t = ⟨#[]⟩
      · subst h1
        go_wp2_with fail
        exact ⟨HX.out (.inr rfl), HY.out (.inr rfl)⟩
      · have b1 : t.toList.isEmpty = false := by
          cases he : t.toList with
          | nil => exact absurd (bytes_inj (a := t) (b := ⟨#[]⟩) (he.trans (by decide +kernel))) h1
          | cons x l => rfl
        have hF := dig_end HD.out.2 rfl h1
        rw [HR.out] at hF
        subst hF
        have HW := Lib.hid HD.out.1
        clear h1 HD HX HY
        go_wp2_with fail
        go_ret
        exact ⟨rfl, HW.out.symm⟩
end Go.Proofs.YtjghnfnlhmhmkaaDoor
