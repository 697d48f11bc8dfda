/- Something is granted at an app: the contracts of from, Grant. -/
import Derived.Test.YtlaahjcdbdipdaaGreatDoorRunAt
import Derived.Test.YtlaahjcdbdipdaaGreatDoorText
namespace Go.Proofs.YtlaahjcdbdipdaaGreatDoor
open Go Go.RowKit Go.MapKept Go.ChangeMaps

/-- Is a denom of a chain? -/
def foreignB (den chain : BA) : Bool := Lib.hasPrefix den.data.toList (chain ++ ⟨#[47]⟩).data.toList
/-- What a denom is there. -/
def homeS (den chain : BA) : BA := ⟨(Lib.trimPrefix den.data.toList (chain ++ ⟨#[47]⟩).data.toList).toArray⟩
set_option maxRecDepth 100000 in
theorem from_any (den chain : BA) (hc : chain.size ≤ 1000000) (w : World) :
    Calls Tryz.prog 46 #[.string den, .string chain] w fun e w' => e = .returned (.tuple #[.string (homeS den chain), .bool (foreignB den chain)]) ∧ w = w' := by
  have hs1 : ∀ W, (Op.stringOp .add chain ⟨#[47]⟩).run Tryz.prog W = .ok (.string (chain ++ ⟨#[47]⟩)) W := fun W => run_string_add_sum W _ _ (by show chain.size + 1 ≤ _; omega)
  have HP := Lib.hid (Tryz.strings_CutPrefix den (chain ++ ⟨#[47]⟩))
  have HF : Hid (∀ W, Calls Tryz.prog 86 #[.string den, .string (chain ++ ⟨#[47]⟩)] W fun e w' => e = .returned (.tuple #[.string (homeS den chain), .bool (foreignB den chain)]) ∧ w' = W) := HP
  clear HP
  generalize homeS den chain = hm at HF ⊢
  generalize foreignB den chain = fb at HF ⊢
  generalize chain ++ ⟨#[47]⟩ = cs at HF hs1
  go_enter Tryz.func46, Tryz.ntmps46
  go_wp2_with fail
  refine (HF.out _).mono ?_
  rintro e w1 ⟨rfl, rfl⟩
  go_wp2_with fail
  first | go_ret | go_ret2
  exact ⟨rfl, rfl⟩
/-- What Grant does. -/
def grantF (other : BA) (b : BS) (acc den : BA) (n : Nat) : Int × BS := if foreignB den other = true ∨ acc = escrowS then (183, b) else mintF b acc den n
/-- What Grant hands back, and leaves. -/
def GrantPost (w : World) (p pb m1 m2 pc m : Nat) (tv : Value) (own other : BA) (kv sv : Value) (next : Int) (E : List (BA × BA)) (set : List Val) (r : Int × BS) (e : Ending) (w' : World) : Prop :=
  e = .returned (i64V r.1) ∧ AppIs w' p pb m1 m2 pc m tv own other kv sv r.2 next E set ∧ Kept (Maps2 m1 m2) w w'
set_option maxRecDepth 100000 in
set_option maxHeartbeats 1600000 in
theorem Grant_any (w : World) (p pb m1 m2 pc m : Nat) (tv : Value) (own other : BA) (kv sv : Value) (b : BS) (next : Int) (E : List (BA × BA)) (set : List Val) (acc den : BA) (n : Nat)
    (h : AppIs w p pb m1 m2 pc m tv own other kv sv b next E set) (hL : Laid w) (ho : other.size ≤ 1000000) (ha : acc.size ≤ maxLen) (hd : den.size ≤ maxLen) :
    Calls Tryz.prog 12 #[ptr p, .string acc, .string den, u64V n] w (GrantPost w p pb m1 m2 pc m tv own other kv sv next E set (grantF other b acc den n)) := by
  obtain ⟨r, hr⟩ : ∃ r, grantF other b acc den n = r := ⟨_, rfl⟩
  rw [hr]
  unfold grantF at hr
  have c1 := h.c1
  have c2 := h.c2
  have HFr := Lib.hid (from_any den other ho)
  have HM := Lib.hid (Mint_any w pb m1 m2 b acc den n h.bank h.good hL ha hd)
  have HG := Lib.hid (good_mint h.good acc den n)
  have hbe := bytes_beq_iff acc escrowS
  rw [escrow_list] at hbe
  have H := Lib.hid h
  clear h hL
  cases hfb : foreignB den other with
  | true =>
    rw [hfb] at hr HFr
    rw [if_pos (Or.inl rfl)] at hr
    subst hr
    clear hfb hbe HM
    go_enter Tryz.func12, Tryz.ntmps12
    go_wp2_with fail
    refine (HFr.out _).mono ?_
    rintro e w1 ⟨rfl, rfl⟩
    go_wp2_with fail
    go_ret
    exact ⟨rfl, H.out, Kept.refl _ _⟩
  | false =>
    rw [hfb] at hr HFr
    by_cases he : acc = escrowS
    · rw [if_pos (Or.inr he)] at hr
      rw [decide_eq_true he] at hbe
      subst hr
      clear hfb he HM
      go_enter Tryz.func12, Tryz.ntmps12
      go_wp2_with fail
      refine (HFr.out _).mono ?_
      rintro e w1 ⟨rfl, rfl⟩
      go_wp2_with fail
      go_ret
      exact ⟨rfl, H.out, Kept.refl _ _⟩
    · rw [if_neg (by rintro (h | h); exact Bool.noConfusion h; exact he h)] at hr
      rw [decide_eq_false he] at hbe
      rw [hr] at HM HG
      clear hfb he hr
      obtain ⟨rn, rb⟩ := r
      go_enter Tryz.func12, Tryz.ntmps12
      go_wp2_with fail
      refine (HFr.out _).mono ?_
      rintro e w1 ⟨rfl, rfl⟩
      go_wp2_with fail
      refine HM.out.mono ?_
      rintro e w2 ⟨rfl, hb, hk⟩
      have H2 := Lib.hid (And.intro hb hk)
      clear hb hk
      go_wp2_with fail
      go_ret
      exact ⟨rfl, H.out.banked H2.out.1 HG.out H2.out.2, H2.out.2⟩
end Go.Proofs.YtlaahjcdbdipdaaGreatDoor
