/- The document's acts: may, Mint, Burn, Move, told. -/
import Derived.Test.YtjghnfnlhmhmkaaDoorRefSet
namespace Go.Proofs.YtjghnfnlhmhmkaaDoor
open Go Go.RowKit Go.MapKept Go.ChangeMaps

set_option maxRecDepth 100000 in
set_option maxHeartbeats 1600000 in
theorem may_any (w : World) (a c d : BA) (n : Nat) (ha : a.size ≤ maxLen) (hc : c.size ≤ maxLen) (hd : d.size ≤ maxLen) :
    Calls Tryd.prog 44 #[.string a, .string c, .string d, u64V n] w fun e w' => e = .returned (.int .i64 (checkV d n [a, c])) ∧ w = w' := by
  have H1 := Lib.hid (Name_any w a ha)
  have H2 := Lib.hid (Name_any w c hc)
  have H3 := Lib.hid (Denom_any w d hd)
  obtain ⟨r, hr⟩ : ∃ r, checkV d n [a, c] = r := ⟨_, rfl⟩
  rw [hr]
  unfold checkV at hr
  simp only [List.all_cons, List.all_nil, Bool.and_true] at hr
  clear ha hc hd
  have HR := Lib.hid hr
  clear hr
  generalize accB a = x at H1 HR
  generalize accB c = y at H2 HR
  generalize denB d = z at H3 HR
  cases x
  case false =>
    have hr : r = 183 := by have := HR.out; simpa using this.symm
    subst hr
    clear HR
    go_enter Tryd.func44, Tryd.ntmps44
    go_wp2_with fail
    refine H1.out.mono ?_
    rintro e w' ⟨rfl, rfl⟩
    go_wp2_with fail
    refine H2.out.mono ?_
    rintro e w' ⟨rfl, rfl⟩
    go_wp2_with fail
    refine H3.out.mono ?_
    rintro e w' ⟨rfl, rfl⟩
    go_wp2_with fail
    go_ret
    exact ⟨rfl, rfl⟩
  case true =>
    cases y
    case false =>
      have hr : r = 183 := by have := HR.out; simpa using this.symm
      subst hr
      clear HR
      go_enter Tryd.func44, Tryd.ntmps44
      go_wp2_with fail
      refine H1.out.mono ?_
      rintro e w' ⟨rfl, rfl⟩
      go_wp2_with fail
      refine H2.out.mono ?_
      rintro e w' ⟨rfl, rfl⟩
      go_wp2_with fail
      refine H3.out.mono ?_
      rintro e w' ⟨rfl, rfl⟩
      go_wp2_with fail
      go_ret
      exact ⟨rfl, rfl⟩
    case true =>
      cases z
      case false =>
        have hr : r = 183 := by have := HR.out; simpa using this.symm
        subst hr
        clear HR
        go_enter Tryd.func44, Tryd.ntmps44
        go_wp2_with fail
        refine H1.out.mono ?_
        rintro e w' ⟨rfl, rfl⟩
        go_wp2_with fail
        refine H2.out.mono ?_
        rintro e w' ⟨rfl, rfl⟩
        go_wp2_with fail
        refine H3.out.mono ?_
        rintro e w' ⟨rfl, rfl⟩
        go_wp2_with fail
        go_ret
        exact ⟨rfl, rfl⟩
      case true =>
        by_cases h0 : n = 0
        · have hr : r = 1 := by have := HR.out; simpa [h0] using this.symm
          subst hr
          subst h0
          clear HR
          go_enter Tryd.func44, Tryd.ntmps44
          go_wp2_with fail
          refine H1.out.mono ?_
          rintro e w' ⟨rfl, rfl⟩
          go_wp2_with fail
          refine H2.out.mono ?_
          rintro e w' ⟨rfl, rfl⟩
          go_wp2_with fail
          refine H3.out.mono ?_
          rintro e w' ⟨rfl, rfl⟩
          go_wp2_with fail
          go_ret
          exact ⟨rfl, rfl⟩
        · have hr : r = 0 := by have := HR.out; simpa [h0] using this.symm
          subst hr
          have b0 : (((n : Nat) : Int) == 0) = false := by simpa using h0
          clear HR h0
          go_enter Tryd.func44, Tryd.ntmps44
          go_wp2_with fail
          refine H1.out.mono ?_
          rintro e w' ⟨rfl, rfl⟩
          go_wp2_with fail
          refine H2.out.mono ?_
          rintro e w' ⟨rfl, rfl⟩
          go_wp2_with fail
          refine H3.out.mono ?_
          rintro e w' ⟨rfl, rfl⟩
          go_wp2_with fail
          go_ret
          exact ⟨rfl, rfl⟩

/-- The document's bank, its list's block beyond a bound. -/
def RefHas (w : World) (q B : Nat) (L : List ((BA × BA) × Nat)) : Prop := ∃ v, RefIs w q v L ∧ ∀ k, v.ownBlock = some k → B ≤ k
theorem RefHas.kept {S : Nat → Prop} {w w' : World} {q B : Nat} {L : List ((BA × BA) × Nat)} (h : RefHas w q B L) (hk : Kept S w w') (h1 : ¬ S q) (h2 : ∀ k, B ≤ k → ¬ S k) : RefHas w' q B L := by
  obtain ⟨v, hr, hb⟩ := h
  exact ⟨v, hr.kept hk h1 (fun k hk' => h2 k (hb k hk')), hb⟩
theorem RefHas.still {w w' : World} {q B : Nat} {L : List ((BA × BA) × Nat)} (h : RefHas w q B L) (hk : Kept Nowhere w w') : RefHas w' q B L := h.kept hk id (fun _ _ => id)
theorem setL_perm {L A : List ((BA × BA) × Nat)} (h : L.Perm A) (p : BA × BA) (n : Nat) : (setL L p n).Perm (putA A p n) := by
  have hm : (mdel L p).Perm (mdel A p) := h.filter _
  unfold setL putA
  by_cases h0 : n = 0
  · rw [if_pos h0, if_pos h0, List.append_nil]; exact hm
  · rw [if_neg h0, if_neg h0]
    exact (List.perm_append_comm).trans (hm.cons (p, n))
theorem setL_length (L : List ((BA × BA) × Nat)) (p : BA × BA) (n : Nat) : (setL L p n).length ≤ L.length + 1 := by
  have := (setL_perm (List.Perm.refl L) p n).length_eq
  rw [this]; exact length_putA L p n
theorem RefBal_run (w : World) (q B : Nat) (L : List ((BA × BA) × Nat)) (a d : BA) (h : RefHas w q B L) (hn : (L.map Prod.fst).Nodup) {s : Nat} (hs : balOf L a d = s) :
    Calls Tryd.prog 22 #[ptr q, .string a, .string d] w fun e w' => e = .returned (u64V s) ∧ w = w' := by
  obtain ⟨v, hr, _⟩ := h
  exact hs ▸ RefBalance_any w q v L a d hr hn
theorem RefSup_run (w : World) (q B : Nat) (L : List ((BA × BA) × Nat)) (d : BA) (h : RefHas w q B L) {s : Nat} (hs : total L d = s) (ht : s ≤ top64) :
    Calls Tryd.prog 23 #[ptr q, .string d] w fun e w' => e = .returned (u64V s) ∧ w = w' := by
  obtain ⟨v, hr, _⟩ := h
  subst hs
  exact RefSupply_any w q v L d hr ht
/-- What set leaves, by the bound. -/
def SetHPost (w : World) (q B : Nat) (L : List ((BA × BA) × Nat)) (e : Ending) (w' : World) : Prop := e = .returned (.tuple #[]) ∧ RefHas w' q B L ∧ Kept (fun k => k = q) w w'
theorem RefSet_run (w : World) (q B : Nat) (L : List ((BA × BA) × Nat)) (a d : BA) (m : Nat) (h : RefHas w q B L) (hB : B ≤ w.heap.size) (hll : L.length ≤ 100000) (hm : m ≤ top64) :
    Calls Tryd.prog 45 #[ptr q, .string a, .string d, u64V m] w (SetHPost w q B (setL L (a, d) m)) := by
  obtain ⟨v, hr, _⟩ := h
  exact (RefSet_any w q v L a d m hr hll hm).mono fun _ _ ⟨v', he, hr', hk, hb⟩ => ⟨he, ⟨v', hr', fun k hk' => Nat.le_trans hB (hb k hk')⟩, hk⟩
/-- What an act at the document's leaves. -/
def RefLeft (w : World) (q B : Nat) (r : Int × BS) (e : Ending) (w' : World) : Prop :=
  ∃ L', e = .returned (.int .i64 r.1) ∧ RefHas w' q B L' ∧ L'.Perm r.2.A ∧ Kept (fun k => k = q) w w'
theorem check_twice (d a : BA) (n : Nat) : checkV d n [a, a] = checkV d n [a] := by
  unfold checkV
  simp
section
variable {L : List ((BA × BA) × Nat)} {b : BS}
theorem perm_nodup (hp : L.Perm b.A) (hg : Good b) : (L.map Prod.fst).Nodup := (hp.map _).nodup_iff.2 hg.nA
theorem perm_bal (hp : L.Perm b.A) (hg : Good b) (a d : BA) : balOf L a d = b.bal a d := by
  unfold BS.bal balOf
  rw [look_perm (perm_nodup hp hg) hp]
theorem perm_sup (hp : L.Perm b.A) (hg : Good b) (d : BA) : total L d = b.sup d := (total_perm hp d).trans (hg.sums d).symm
end
theorem keptNo {w : World} (q : Nat) : Kept (fun k => k = q) w w := Kept.refl _ _
set_option maxRecDepth 100000 in
set_option maxHeartbeats 1600000 in
theorem RefMint_any (w : World) (q B : Nat) (L : List ((BA × BA) × Nat)) (b : BS) (to d : BA) (n : Nat) (h : RefHas w q B L) (hp : L.Perm b.A) (hg : Good b) (hB : B ≤ w.heap.size) (hl : L.length ≤ 100000) (hto : to.size ≤ maxLen) (hd : d.size ≤ maxLen) (hn : n ≤ top64) :
    Calls Tryd.prog 32 #[ptr q, .string to, .string d, u64V n] w (RefLeft w q B (mintF b to d n)) := by
  have HM := Lib.hid (may_any w to to d n hto hto hd)
  rw [check_twice] at HM
  have htop := hg.top d
  have hle := hg.bal_le to d
  obtain ⟨s, hs⟩ : ∃ s, b.sup d = s := ⟨_, rfl⟩
  obtain ⟨u, hu⟩ : ∃ u, b.bal to d = u := ⟨_, rfl⟩
  have HS := Lib.hid (RefSup_run w q B L d h ((perm_sup hp hg d).trans hs) (hs ▸ htop))
  have HB := Lib.hid (RefBal_run w q B L to d h (perm_nodup hp hg) ((perm_bal hp hg to d).trans hu))
  rw [hs] at htop hle
  rw [hu] at hle
  by_cases hc : checkV d n [to] = 0
  · rw [hc] at HM
    by_cases ho : top64 - s < n
    · have e : mintF b to d n = (182, b) := by unfold mintF; rw [if_neg (by simpa using hc), hs, if_pos ho]
      rw [e]
      have HF := Lib.hid (And.intro h hp)
      have hroom := u64_room htop
      unfold top64 at *
      have hlt : ((18446744073709551615 - s : Nat) : Int) < (n : Int) := by omega
      clear e h hp hg hs hu hc
      go_enter Tryd.func32, Tryd.ntmps32
      go_wp2_with fail
      refine HM.out.mono ?_
      rintro e w' ⟨rfl, rfl⟩
      go_wp2_with fail
      refine HS.out.mono ?_
      rintro e w' ⟨rfl, rfl⟩
      go_wp2_with fail
      go_ret
      exact ⟨L, rfl, HF.out.1, HF.out.2, keptNo q⟩
    · have e : mintF b to d n = (0, ⟨putA b.A (to, d) (u + n), mput b.S d (s + n)⟩) := by unfold mintF; rw [if_neg (by simpa using hc), hs, if_neg ho, hu]
      rw [e]
      have hun : u + n ≤ top64 := by unfold top64 at *; omega
      have HF := Lib.hid (RefSet_run w q B L to d (u + n) h hB hl hun)
      have HP := Lib.hid (setL_perm hp (to, d) (u + n))
      have hroom := u64_room htop
      have hadd := u64_add hun
      unfold top64 at *
      have hlt : ¬ ((18446744073709551615 - s : Nat) : Int) < (n : Int) := by omega
      clear e h hp hg hs hu hc
      go_enter Tryd.func32, Tryd.ntmps32
      go_wp2_with fail
      refine HM.out.mono ?_
      rintro e w' ⟨rfl, rfl⟩
      go_wp2_with fail
      refine HS.out.mono ?_
      rintro e w' ⟨rfl, rfl⟩
      go_wp2_with fail
      refine HB.out.mono ?_
      rintro e w' ⟨rfl, rfl⟩
      go_wp2_with fail
      refine HF.out.mono ?_
      rintro e w' ⟨rfl, hh, hk⟩
      have HK := Lib.hid (And.intro hh hk)
      clear hh hk
      go_wp2_with fail
      go_ret
      exact ⟨_, rfl, HK.out.1, HP.out, HK.out.2⟩
  · have e : mintF b to d n = (checkV d n [to], b) := by unfold mintF; rw [if_pos hc]
    rw [e]
    obtain ⟨r, hr⟩ : ∃ r, checkV d n [to] = r := ⟨_, rfl⟩
    rw [hr] at hc HM ⊢
    have b0 : (r == 0) = false := by simpa using hc
    have HF := Lib.hid (And.intro h hp)
    clear e h hp hg hs hu hc hr
    go_enter Tryd.func32, Tryd.ntmps32
    go_wp2_with fail
    refine HM.out.mono ?_
    rintro e w' ⟨rfl, rfl⟩
    go_wp2_with fail
    go_ret
    exact ⟨L, rfl, HF.out.1, HF.out.2, keptNo q⟩
set_option maxRecDepth 100000 in
set_option maxHeartbeats 1600000 in
theorem RefBurn_any (w : World) (q B : Nat) (L : List ((BA × BA) × Nat)) (b : BS) (a d : BA) (n : Nat) (h : RefHas w q B L) (hp : L.Perm b.A) (hg : Good b) (hB : B ≤ w.heap.size) (hl : L.length ≤ 100000) (ha : a.size ≤ maxLen) (hd : d.size ≤ maxLen) :
    Calls Tryd.prog 33 #[ptr q, .string a, .string d, u64V n] w (RefLeft w q B (burnF b a d n)) := by
  have HM := Lib.hid (may_any w a a d n ha ha hd)
  rw [check_twice] at HM
  have htop := hg.top d
  have hle := hg.bal_le a d
  obtain ⟨u, hu⟩ : ∃ u, b.bal a d = u := ⟨_, rfl⟩
  have HB := Lib.hid (RefBal_run w q B L a d h (perm_nodup hp hg) ((perm_bal hp hg a d).trans hu))
  rw [hu] at hle
  have hut : u ≤ top64 := Nat.le_trans hle htop
  clear hle htop
  by_cases hc : checkV d n [a] = 0
  · rw [hc] at HM
    by_cases ho : u < n
    · have e : burnF b a d n = (181, b) := by unfold burnF; rw [if_neg (by simpa using hc), hu, if_pos ho]
      rw [e]
      have HF := Lib.hid (And.intro h hp)
      clear e h hp hg hu hc
      go_enter Tryd.func33, Tryd.ntmps33
      go_wp2_with fail
      refine HM.out.mono ?_
      rintro e w' ⟨rfl, rfl⟩
      go_wp2_with fail
      refine HB.out.mono ?_
      rintro e w' ⟨rfl, rfl⟩
      go_wp2_with fail
      go_ret
      exact ⟨L, rfl, HF.out.1, HF.out.2, keptNo q⟩
    · have e : burnF b a d n = (0, ⟨putA b.A (a, d) (u - n), mput b.S d (b.sup d - n)⟩) := by unfold burnF; rw [if_neg (by simpa using hc), hu, if_neg ho]
      rw [e]
      have hun : u - n ≤ top64 := by omega
      have HF := Lib.hid (RefSet_run w q B L a d (u - n) h hB hl hun)
      have HP := Lib.hid (setL_perm hp (a, d) (u - n))
      have hsub := u64_sub (a := u) (b := n) (by omega) hut
      have ho' : n ≤ u := by omega
      clear e h hp hg hu hc ho hun
      go_enter Tryd.func33, Tryd.ntmps33
      go_wp2_with fail
      refine HM.out.mono ?_
      rintro e w' ⟨rfl, rfl⟩
      go_wp2_with fail
      refine HB.out.mono ?_
      rintro e w' ⟨rfl, rfl⟩
      go_wp2_with fail
      refine HB.out.mono ?_
      rintro e w' ⟨rfl, rfl⟩
      go_wp2_with fail
      refine HF.out.mono ?_
      rintro e w' ⟨rfl, hh, hk⟩
      have HK := Lib.hid (And.intro hh hk)
      clear hh hk
      go_wp2_with fail
      go_ret
      exact ⟨_, rfl, HK.out.1, HP.out, HK.out.2⟩
  · have e : burnF b a d n = (checkV d n [a], b) := by unfold burnF; rw [if_pos hc]
    rw [e]
    obtain ⟨r, hr⟩ : ∃ r, checkV d n [a] = r := ⟨_, rfl⟩
    rw [hr] at hc HM ⊢
    have b0 : (r == 0) = false := by simpa using hc
    have HF := Lib.hid (And.intro h hp)
    clear e h hp hg hu hc hr
    go_enter Tryd.func33, Tryd.ntmps33
    go_wp2_with fail
    refine HM.out.mono ?_
    rintro e w' ⟨rfl, rfl⟩
    go_wp2_with fail
    go_ret
    exact ⟨L, rfl, HF.out.1, HF.out.2, keptNo q⟩
set_option maxRecDepth 100000 in
set_option maxHeartbeats 1600000 in
theorem RefMove_any (w : World) (q B : Nat) (L : List ((BA × BA) × Nat)) (b : BS) (a c d : BA) (n : Nat) (h : RefHas w q B L) (hp : L.Perm b.A) (hg : Good b) (hB : B ≤ w.heap.size) (hl : L.length ≤ 90000) (ha : a.size ≤ maxLen) (hcl : c.size ≤ maxLen) (hd : d.size ≤ maxLen) :
    Calls Tryd.prog 34 #[ptr q, .string a, .string c, .string d, u64V n] w (RefLeft w q B (moveF b a c d n)) := by
  have HM := Lib.hid (may_any w a c d n ha hcl hd)
  have htop := hg.top d
  have hle := hg.bal_le a d
  obtain ⟨u, hu⟩ : ∃ u, b.bal a d = u := ⟨_, rfl⟩
  have HB := Lib.hid (RefBal_run w q B L a d h (perm_nodup hp hg) ((perm_bal hp hg a d).trans hu))
  rw [hu] at hle
  have hut : u ≤ top64 := Nat.le_trans hle htop
  clear hle htop
  by_cases hc : checkV d n [a, c] = 0
  · rw [hc] at HM
    by_cases ho : u < n
    · have e : moveF b a c d n = (181, b) := by unfold moveF; rw [if_neg (by simpa using hc), hu, if_pos ho]
      rw [e]
      have HF := Lib.hid (And.intro h hp)
      clear e h hp hg hu hc
      go_enter Tryd.func34, Tryd.ntmps34
      go_wp2_with fail
      refine HM.out.mono ?_
      rintro e w' ⟨rfl, rfl⟩
      go_wp2_with fail
      refine HB.out.mono ?_
      rintro e w' ⟨rfl, rfl⟩
      go_wp2_with fail
      go_ret
      exact ⟨L, rfl, HF.out.1, HF.out.2, keptNo q⟩
    · have e : moveF b a c d n = (0, ⟨moveA b.A a c d n, b.S⟩) := by unfold moveF; rw [if_neg (by simpa using hc), hu, if_neg ho]
      rw [e]
      have hroom := move_room hg (a := a) (c := c) (d := d) (n := n) (by omega)
      obtain ⟨A1, hA1⟩ : ∃ A1, A1 = putA b.A (a, d) (u - n) := ⟨_, rfl⟩
      have hA1' : A1 = putA b.A (a, d) (balOf b.A a d - n) := by rw [hA1, ← hu]; rfl
      obtain ⟨L1, hL1⟩ : ∃ L1, L1 = setL L (a, d) (u - n) := ⟨_, rfl⟩
      have hp1 : L1.Perm A1 := by rw [hL1, hA1]; exact setL_perm hp (a, d) (u - n)
      have hn1 : (L1.map Prod.fst).Nodup := (hp1.map _).nodup_iff.2 (by rw [hA1]; exact nodup_putA hg.nA _ _)
      obtain ⟨t, ht⟩ : ∃ t, balOf A1 c d = t := ⟨_, rfl⟩
      rw [← hA1', ht] at hroom
      have hbt : balOf L1 c d = t := by rw [← ht]; unfold balOf; rw [look_perm hn1 hp1]
      have HP := Lib.hid (show (setL L1 (c, d) (t + n)).Perm (moveA b.A a c d n) by
        have h2 := setL_perm hp1 (c, d) (t + n)
        unfold moveA
        rw [← hA1', ht]
        exact h2)
      have hl1 : L1.length ≤ 100000 := by rw [hL1]; have := setL_length L (a, d) (u - n); omega
      have HF := Lib.hid (RefSet_run w q B L a d (u - n) h hB (by omega) (by omega))
      rw [← hL1] at HF
      have HF2 := Lib.hid (fun (W : World) (hW : RefHas W q B L1) (hBW : B ≤ W.heap.size) => And.intro (RefBal_run W q B L1 c d hW hn1 hbt) (RefSet_run W q B L1 c d (t + n) hW hBW hl1 hroom))
      have HBW := Lib.hid hB
      have hsub := u64_sub (a := u) (b := n) (by omega) hut
      have hadd := u64_add hroom
      have ho' : n ≤ u := by omega
      clear e h hp hg hu hc ho hA1 hA1' hL1 hp1 hn1 ht hbt hl1 hl hB
      unfold top64 at *
      go_enter Tryd.func34, Tryd.ntmps34
      go_wp2_with fail
      refine HM.out.mono ?_
      rintro e w' ⟨rfl, rfl⟩
      go_wp2_with fail
      refine HB.out.mono ?_
      rintro e w' ⟨rfl, rfl⟩
      go_wp2_with fail
      refine HB.out.mono ?_
      rintro e w' ⟨rfl, rfl⟩
      go_wp2_with fail
      refine HF.out.mono ?_
      rintro e w1 ⟨rfl, hh, hk⟩
      have HK := Lib.hid (And.intro hh hk)
      have HX := Lib.hid (HF2.out w1 hh (Nat.le_trans HBW.out hk.size))
      clear hh hk
      go_wp2_with fail
      refine HX.out.1.mono ?_
      rintro e w' ⟨rfl, rfl⟩
      go_wp2_with fail
      refine HX.out.2.mono ?_
      rintro e w2 ⟨rfl, hh, hk⟩
      have HK2 := Lib.hid (And.intro hh hk)
      clear hh hk
      go_wp2_with fail
      go_ret
      exact ⟨_, rfl, HK2.out.1, HP.out, HK.out.2.trans HK2.out.2⟩
  · have e : moveF b a c d n = (checkV d n [a, c], b) := by unfold moveF; rw [if_pos hc]
    rw [e]
    obtain ⟨r, hr⟩ : ∃ r, checkV d n [a, c] = r := ⟨_, rfl⟩
    rw [hr] at hc HM ⊢
    have b0 : (r == 0) = false := by simpa using hc
    have HF := Lib.hid (And.intro h hp)
    clear e h hp hg hu hc hr
    go_enter Tryd.func34, Tryd.ntmps34
    go_wp2_with fail
    refine HM.out.mono ?_
    rintro e w' ⟨rfl, rfl⟩
    go_wp2_with fail
    go_ret
    exact ⟨L, rfl, HF.out.1, HF.out.2, keptNo q⟩
theorem RefLeft.of_kept {w W w' : World} {q B : Nat} {r : Int × BS} {e : Ending} (hk : Kept Nowhere w W) (h : RefLeft W q B r e w') : RefLeft w q B r e w' := by
  obtain ⟨L', h1, h2, h3, h4⟩ := h
  exact ⟨L', h1, h2, h3, (hk.weaken (fun _ _ h => h.elim)).trans h4⟩
set_option maxRecDepth 100000 in
set_option maxHeartbeats 1600000 in
theorem told_any (w : World) (q B : Nat) (L : List ((BA × BA) × Nat)) (b : BS) (x : ActS) (h : RefHas w q B L) (hp : L.Perm b.A) (hg : Good b) (hB : B ≤ w.heap.size) (hl : L.length ≤ 90000) (hf : x.Fit) :
    Calls Tryd.prog 20 #[.agg x.cells.toArray, ptr q] w (RefLeft w q B (actF b x)) := by
  obtain ⟨k, fr, to, d, n⟩ := x
  obtain ⟨h1, h2, h3, h4⟩ := hf
  simp only at h1 h2 h3 h4
  have hk : ∀ o, Kept Nowhere w (w.alloc o) := fun o => (Kept.refl _ _).alloc o
  have hBo : ∀ o : Obj, B ≤ (w.alloc o).heap.size := fun o => Nat.le_trans hB (hk o).size
  have HM := Lib.hid (fun o => RefMint_any (w.alloc o) q B L b to d n (h.still (hk o)) hp hg (hBo o) (by omega) h2 h3 h4)
  have HBu := Lib.hid (fun o => RefBurn_any (w.alloc o) q B L b fr d n (h.still (hk o)) hp hg (hBo o) (by omega) h1 h3)
  have HMo := Lib.hid (fun o => RefMove_any (w.alloc o) q B L b fr to d n (h.still (hk o)) hp hg (hBo o) hl h1 h2 h3)
  have HK := Lib.hid hk
  have HH := Lib.hid (And.intro h hp)
  clear hk hBo h hg hp h1 h2 h3 h4 hB hl
  by_cases k1 : k = 1
  · have e : actF b ⟨k, fr, to, d, n⟩ = mintF b to d n := by unfold actF; rw [if_pos k1]
    rw [e]; clear e
    subst k1
    generalize mintF b to d n = r at HM ⊢
    go_enter Tryd.func20, Tryd.ntmps20
    unfold ActS.cells
    go_wp2_with fail
    refine (HM.out _).mono ?_
    rintro e w1 ⟨L', rfl, hh⟩
    have HR := Lib.hid hh; clear hh
    go_wp2_with fail
    go_ret
    exact RefLeft.of_kept (HK.out _) ⟨L', rfl, HR.out⟩
  · by_cases k2 : k = 2
    · have e : actF b ⟨k, fr, to, d, n⟩ = burnF b fr d n := by unfold actF; rw [if_neg k1, if_pos k2]
      rw [e]; clear e k1
      subst k2
      generalize burnF b fr d n = r at HBu ⊢
      go_enter Tryd.func20, Tryd.ntmps20
      unfold ActS.cells
      go_wp2_with fail
      refine (HBu.out _).mono ?_
      rintro e w1 ⟨L', rfl, hh⟩
      have HR := Lib.hid hh; clear hh
      go_wp2_with fail
      go_ret
      exact RefLeft.of_kept (HK.out _) ⟨L', rfl, HR.out⟩
    · by_cases k3 : k = 3
      · have e : actF b ⟨k, fr, to, d, n⟩ = moveF b fr to d n := by unfold actF; rw [if_neg k1, if_neg k2, if_pos k3]
        rw [e]; clear e k1 k2
        subst k3
        generalize moveF b fr to d n = r at HMo ⊢
        go_enter Tryd.func20, Tryd.ntmps20
        unfold ActS.cells
        go_wp2_with fail
        refine (HMo.out _).mono ?_
        rintro e w1 ⟨L', rfl, hh⟩
        have HR := Lib.hid hh; clear hh
        go_wp2_with fail
        go_ret
        exact RefLeft.of_kept (HK.out _) ⟨L', rfl, HR.out⟩
      · have e : actF b ⟨k, fr, to, d, n⟩ = (0, b) := by unfold actF; rw [if_neg k1, if_neg k2, if_neg k3]
        rw [e]; clear e
        have b1 : (k == 1) = false := by simpa using k1
        have b2 : (k == 2) = false := by simpa using k2
        have b3 : (k == 3) = false := by simpa using k3
        clear k1 k2 k3
        go_enter Tryd.func20, Tryd.ntmps20
        unfold ActS.cells
        go_wp2_with fail
        go_ret
        exact RefLeft.of_kept (HK.out _) ⟨L, rfl, HH.out.1.still (HK.out _), HH.out.2, keptNo q⟩
end Go.Proofs.YtjghnfnlhmhmkaaDoor
