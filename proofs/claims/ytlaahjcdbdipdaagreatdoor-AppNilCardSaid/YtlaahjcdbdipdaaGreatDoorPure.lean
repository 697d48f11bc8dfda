/- The bank in plain words: what the acts do, what stays so. No program in sight but for the texts' law. -/
import Derived.Test.YtlaahjcdbdipdaaGreatDoorEntries
namespace Go.Proofs.YtlaahjcdbdipdaaGreatDoor
open Go Go.RowKit

/-- What a bank has. -/
structure BS where
  A : List ((BA × BA) × Nat)
  S : List (BA × Nat)
def BS.bal (b : BS) (a d : BA) : Nat := balOf b.A a d
def BS.sup (b : BS) (d : BA) : Nat := supOf b.S d
/-- All that accounts have of a denom. -/
def total (A : List ((BA × BA) × Nat)) (d : BA) : Nat := ((A.filter fun x => x.1.2 = d).map (·.2)).sum

section
variable {κ ν : Type} [DecidableEq κ]
theorem mlook_cons (k : κ) (v : ν) (L : List (κ × ν)) (a : κ) : mlook ((k, v) :: L) a = if a = k then some v else mlook L a := by
  unfold mlook; rw [List.lookup_cons]
  by_cases h : a = k
  · subst h; simp
  · rw [show (a == k) = false from by simpa using h, if_neg h]
theorem mlook_mem {L : List (κ × ν)} {a : κ} {v : ν} (h : mlook L a = some v) : (a, v) ∈ L := by
  induction L with
  | nil => cases h
  | cons p L ih =>
    obtain ⟨k, u⟩ := p
    rw [mlook_cons] at h
    split at h
    · rename_i e; cases h; rw [e]; simp
    · exact List.mem_cons_of_mem _ (ih h)
theorem mlook_iff {L : List (κ × ν)} (hn : (L.map Prod.fst).Nodup) {a : κ} {v : ν} : mlook L a = some v ↔ (a, v) ∈ L := ⟨mlook_mem, look_eq hn⟩
omit [DecidableEq κ] in
theorem nodup_of_keys {L : List (κ × ν)} (hn : (L.map Prod.fst).Nodup) : L.Nodup := (List.pairwise_map.1 hn).imp (fun {a b} h e => h (by rw [e]))
theorem perm_of_look {L M : List (κ × ν)} (hL : (L.map Prod.fst).Nodup) (hM : (M.map Prod.fst).Nodup) (h : ∀ a, mlook L a = mlook M a) : L.Perm M := by
  classical
  rw [List.perm_ext_iff_of_nodup (nodup_of_keys hL) (nodup_of_keys hM)]
  rintro ⟨a, v⟩
  rw [← mlook_iff hL, ← mlook_iff hM, h]
theorem look_perm {L M : List (κ × ν)} (hL : (L.map Prod.fst).Nodup) (hp : L.Perm M) (a : κ) : mlook L a = mlook M a := by
  have hM : (M.map Prod.fst).Nodup := (hp.map _).nodup_iff.1 hL
  cases h : mlook L a with
  | none =>
    cases h2 : mlook M a with
    | none => rfl
    | some v => rw [mlook_iff hM, ← hp.mem_iff, ← mlook_iff hL, h] at h2; cases h2
  | some v => exact ((mlook_iff hM).2 (hp.mem_iff.1 ((mlook_iff hL).1 h))).symm
theorem nodup_mdel {L : List (κ × ν)} (hn : (L.map Prod.fst).Nodup) (a : κ) : ((mdel L a).map Prod.fst).Nodup := (List.filter_sublist.map _).nodup hn
theorem nodup_mput {L : List (κ × ν)} (hn : (L.map Prod.fst).Nodup) (a : κ) (v : ν) : ((mput L a v).map Prod.fst).Nodup := by
  unfold mput
  rw [List.map_cons, List.nodup_cons]
  refine ⟨?_, nodup_mdel hn a⟩
  intro h
  obtain ⟨p, hp, he⟩ := List.mem_map.1 h
  exact (by simpa using (List.mem_filter.1 hp).2 : p.1 ≠ a) he
end
theorem nodup_putA {A : List ((BA × BA) × Nat)} (hn : (A.map Prod.fst).Nodup) (q : BA × BA) (n : Nat) : ((putA A q n).map Prod.fst).Nodup := by
  unfold putA; split
  · exact nodup_mdel hn q
  · exact nodup_mput hn q n
theorem bal_putA (A : List ((BA × BA) × Nat)) (a d : BA) (n : Nat) (a' d' : BA) : balOf (putA A (a, d) n) a' d' = if (a', d') = (a, d) then n else balOf A a' d' := by
  unfold balOf putA
  by_cases hn : n = 0
  · rw [if_pos hn, lookup_mdel]
    split
    · simp [hn]
    · rfl
  · rw [if_neg hn, lookup_mput]
    split <;> rfl
theorem sup_put (S : List (BA × Nat)) (d : BA) (n : Nat) (d' : BA) : supOf (mput S d n) d' = if d' = d then n else supOf S d' := by
  unfold supOf; rw [lookup_mput]; split <;> rfl

/-! ### sums -/
theorem total_perm {A B : List ((BA × BA) × Nat)} (h : A.Perm B) (d : BA) : total A d = total B d := by
  unfold total; exact ((h.filter _).map _).sum_nat
theorem total_cons (q : BA × BA) (n : Nat) (A : List ((BA × BA) × Nat)) (d : BA) : total ((q, n) :: A) d = (if q.2 = d then n else 0) + total A d := by
  unfold total
  rw [List.filter_cons]
  by_cases h : q.2 = d <;> simp [h]
theorem total_split {A : List ((BA × BA) × Nat)} (hn : (A.map Prod.fst).Nodup) (a d d' : BA) : total A d' = (if d = d' then balOf A a d else 0) + total (mdel A (a, d)) d' := by
  cases h : mlook A (a, d) with
  | none =>
    have e : mdel A (a, d) = A := by
      unfold mdel
      refine List.filter_eq_self.2 fun p hp => ?_
      have : p.1 ≠ (a, d) := fun e => by
        have := (mlook_iff hn (a := (a, d)) (v := p.2)).2 (by rw [← e]; exact hp)
        rw [h] at this; cases this
      simpa using this
    rw [e]; unfold balOf; rw [h]; simp
  | some n =>
    have hp := perm_cons_filter Prod.fst hn ((mlook_iff hn).1 h)
    rw [total_perm hp, total_cons]
    unfold balOf; rw [h]; rfl
theorem bal_le_total {A : List ((BA × BA) × Nat)} (hn : (A.map Prod.fst).Nodup) (a d : BA) : balOf A a d ≤ total A d := by
  have := total_split hn a d d
  rw [if_pos rfl] at this; omega
theorem total_putA {A : List ((BA × BA) × Nat)} (hn : (A.map Prod.fst).Nodup) (a d : BA) (n : Nat) (d' : BA) : total (putA A (a, d) n) d' + (if d = d' then balOf A a d else 0) = total A d' + (if d = d' then n else 0) := by
  have h1 := total_split hn a d d'
  unfold putA
  by_cases h0 : n = 0
  · rw [if_pos h0]; subst h0; split at h1 <;> simp_all <;> omega
  · rw [if_neg h0]
    show total (((a, d), n) :: mdel A (a, d)) d' + _ = _
    rw [total_cons]
    split at h1 <;> simp_all <;> omega

/-! ### the acts -/
/-- What holds of each bank that the acts make. -/
structure Good (b : BS) : Prop where
  nA : (b.A.map Prod.fst).Nodup
  nS : (b.S.map Prod.fst).Nodup
  names : ∀ x ∈ b.A, accB x.1.1 = true ∧ denB x.1.2 = true
  pos : ∀ x ∈ b.A, 0 < x.2
  sums : ∀ d, b.sup d = total b.A d
  top : ∀ d, b.sup d ≤ top64
def BS.none : BS := ⟨[], []⟩
theorem good_none : Good BS.none := ⟨by simp [BS.none], by simp [BS.none], by simp [BS.none], by simp [BS.none], fun _ => rfl, fun _ => by unfold top64; exact Nat.zero_le _⟩
theorem Good.bal_le {b : BS} (h : Good b) (a d : BA) : b.bal a d ≤ b.sup d := by rw [h.sums]; exact bal_le_total h.nA a d
def mintF (b : BS) (to d : BA) (n : Nat) : Int × BS :=
  if checkV d n [to] ≠ 0 then (checkV d n [to], b)
  else if top64 - b.sup d < n then (182, b)
  else (0, ⟨putA b.A (to, d) (b.bal to d + n), mput b.S d (b.sup d + n)⟩)
def burnF (b : BS) (a d : BA) (n : Nat) : Int × BS :=
  if checkV d n [a] ≠ 0 then (checkV d n [a], b)
  else if b.bal a d < n then (181, b)
  else (0, ⟨putA b.A (a, d) (b.bal a d - n), mput b.S d (b.sup d - n)⟩)
def moveF (b : BS) (a c d : BA) (n : Nat) : Int × BS :=
  if checkV d n [a, c] ≠ 0 then (checkV d n [a, c], b)
  else if b.bal a d < n then (181, b)
  else (0, ⟨moveA b.A a c d n, b.S⟩)
theorem names_putA {A : List ((BA × BA) × Nat)} {a d : BA} {n : Nat} (h : ∀ x ∈ A, accB x.1.1 = true ∧ denB x.1.2 = true) (ha : accB a = true) (hd : denB d = true) : ∀ x ∈ putA A (a, d) n, accB x.1.1 = true ∧ denB x.1.2 = true := by
  intro x hx
  unfold putA at hx
  split at hx
  · exact h x (List.mem_filter.1 hx).1
  · rcases List.mem_cons.1 hx with rfl | hx
    · exact ⟨ha, hd⟩
    · exact h x (List.mem_filter.1 hx).1
theorem pos_putA {A : List ((BA × BA) × Nat)} {q : BA × BA} {n : Nat} (h : ∀ x ∈ A, 0 < x.2) : ∀ x ∈ putA A q n, 0 < x.2 := by
  intro x hx
  unfold putA at hx
  split at hx
  · exact h x (List.mem_filter.1 hx).1
  · rcases List.mem_cons.1 hx with rfl | hx
    · show 0 < n; omega
    · exact h x (List.mem_filter.1 hx).1
theorem length_putA (A : List ((BA × BA) × Nat)) (q : BA × BA) (n : Nat) : (putA A q n).length ≤ A.length + 1 := by
  unfold putA
  split
  · exact Nat.le_trans (List.length_filter_le _ _) (Nat.le_succ _)
  · exact Nat.succ_le_succ (List.length_filter_le _ _)
theorem check_zero {d : BA} {n : Nat} {accs : List BA} (h : checkV d n accs = 0) : denB d = true ∧ accs.all accB = true ∧ 0 < n := by
  unfold checkV at h
  split at h
  · cases h
  · rename_i hh
    simp only [Bool.not_eq_true', Bool.not_eq_false, Bool.and_eq_true] at hh
    split at h
    · cases h
    · exact ⟨hh.1, hh.2, by omega⟩
theorem good_mint {b : BS} (h : Good b) (to d : BA) (n : Nat) : Good (mintF b to d n).2 := by
  unfold mintF
  split
  · exact h
  · rename_i hc
    split
    · exact h
    · rename_i ht
      obtain ⟨hd, ha, _⟩ := check_zero (Classical.not_not.1 hc)
      simp only [List.all_cons, List.all_nil, Bool.and_true] at ha
      have htop := h.top d
      refine ⟨nodup_putA h.nA _ _, nodup_mput h.nS _ _, names_putA h.names ha hd, pos_putA h.pos, fun d' => ?_, fun d' => ?_⟩
      · have e := total_putA h.nA to d (b.bal to d + n) d'
        show supOf (mput b.S d (b.sup d + n)) d' = total (putA b.A (to, d) (b.bal to d + n)) d'
        rw [sup_put]
        have hs := h.sums d'
        unfold BS.sup BS.bal at *
        by_cases hdd : d' = d
        · subst hdd; simp at e ⊢; omega
        · rw [if_neg hdd]; rw [if_neg (Ne.symm hdd), if_neg (Ne.symm hdd)] at e; omega
      · show supOf (mput b.S d (b.sup d + n)) d' ≤ top64
        rw [sup_put]
        have := h.top d'
        split
        · omega
        · exact this
theorem good_burn {b : BS} (h : Good b) (a d : BA) (n : Nat) : Good (burnF b a d n).2 := by
  unfold burnF
  split
  · exact h
  · rename_i hc
    split
    · exact h
    · rename_i ht
      obtain ⟨hd, ha, _⟩ := check_zero (Classical.not_not.1 hc)
      simp only [List.all_cons, List.all_nil, Bool.and_true] at ha
      have hle := h.bal_le a d
      refine ⟨nodup_putA h.nA _ _, nodup_mput h.nS _ _, names_putA h.names ha hd, pos_putA h.pos, fun d' => ?_, fun d' => ?_⟩
      · have e := total_putA h.nA a d (b.bal a d - n) d'
        show supOf (mput b.S d (b.sup d - n)) d' = total (putA b.A (a, d) (b.bal a d - n)) d'
        rw [sup_put]
        have hs := h.sums d'
        unfold BS.sup BS.bal at *
        by_cases hdd : d' = d
        · subst hdd; simp at e ⊢; omega
        · rw [if_neg hdd]; rw [if_neg (Ne.symm hdd), if_neg (Ne.symm hdd)] at e; omega
      · show supOf (mput b.S d (b.sup d - n)) d' ≤ top64
        rw [sup_put]
        have := h.top d'
        have := h.top d
        split
        · omega
        · exact h.top d'
theorem total_move {A : List ((BA × BA) × Nat)} (hn : (A.map Prod.fst).Nodup) (a c d : BA) (n : Nat) (hle : n ≤ balOf A a d) (d' : BA) : total (moveA A a c d n) d' = total A d' := by
  unfold moveA
  have e1 := total_putA hn a d (balOf A a d - n) d'
  have e2 := total_putA (nodup_putA hn (a, d) (balOf A a d - n)) c d (balOf (putA A (a, d) (balOf A a d - n)) c d + n) d'
  by_cases h : d = d'
  · subst h; simp at e1 e2; omega
  · simp only [if_neg h] at e1 e2; omega
theorem good_move {b : BS} (h : Good b) (a c d : BA) (n : Nat) : Good (moveF b a c d n).2 := by
  unfold moveF
  split
  · exact h
  · rename_i hc
    split
    · exact h
    · rename_i ht
      obtain ⟨hd, ha, _⟩ := check_zero (Classical.not_not.1 hc)
      simp only [List.all_cons, List.all_nil, Bool.and_true, Bool.and_eq_true] at ha
      refine ⟨nodup_putA (nodup_putA h.nA _ _) _ _, h.nS, names_putA (names_putA h.names ha.1 hd) ha.2 hd, pos_putA (pos_putA h.pos), fun d' => ?_, h.top⟩
      show b.sup d' = total (moveA b.A a c d n) d'
      rw [total_move h.nA a c d n (by unfold BS.bal at ht; omega)]
      exact h.sums d'
theorem move_room {b : BS} (h : Good b) {a c d : BA} {n : Nat} (hle : n ≤ b.bal a d) : balOf (putA b.A (a, d) (balOf b.A a d - n)) c d + n ≤ top64 := by
  have h1 := total_putA h.nA a d (balOf b.A a d - n) d
  have h2 := bal_le_total (nodup_putA h.nA (a, d) (balOf b.A a d - n)) c d
  have h3 := h.sums d
  have h4 := h.top d
  unfold BS.bal at hle
  simp at h1
  omega
end Go.Proofs.YtlaahjcdbdipdaaGreatDoor
