/- The plain law: what the acts do to the sums; there and back; in parts; two lists of entries of like banks are one. -/
import Derived.Test.YtjghnfnlhmhmkaaDoorRun
namespace Go.Proofs.YtjghnfnlhmhmkaaDoor
open Go Go.RowKit

/-! ### an entry's key tells its purse -/
theorem cut_inj : ∀ {d1 d2 a1 a2 : List UInt8}, (47 : UInt8) ∉ a1 → (47 : UInt8) ∉ a2 → d1 ++ 47 :: a1 = d2 ++ 47 :: a2 → d1 = d2 ∧ a1 = a2
  | [], [], _, _, _, _, h => ⟨rfl, (List.cons.inj h).2⟩
  | [], y :: d2, a1, a2, h1, _, h => by
    have := (List.cons.inj h).2
    exact absurd (by rw [this]; simp) h1
  | x :: d1, [], a1, a2, _, h2, h => by
    have := (List.cons.inj h).2
    exact absurd (by rw [← this]; simp) h2
  | x :: d1, y :: d2, a1, a2, h1, h2, h => by
    obtain ⟨e1, e2⟩ := List.cons.inj h
    obtain ⟨e3, e4⟩ := cut_inj h1 h2 e2
    exact ⟨by rw [e1, e3], e4⟩
theorem acc_slash {a : BA} (h : accB a = true) : (47 : UInt8) ∉ a.data.toList := by
  unfold accB ofB at h
  simp only [Bool.and_eq_true] at h
  intro hm
  exact absurd (allOf_iff.1 h.2 47 hm) (by decide)
theorem acc_size {a : BA} (h : accB a = true) : a.size ≤ 16 := by
  unfold accB ofB at h
  simp only [Bool.and_eq_true, decide_eq_true_eq] at h
  exact h.1.2
theorem den_size {d : BA} (h : denB d = true) : d.size ≤ 40 := by
  unfold denB ofB at h
  simp only [Bool.and_eq_true, decide_eq_true_eq] at h
  exact h.1.1.2
theorem bytes_ext {a b : BA} (h : a.data.toList = b.data.toList) : a = b := by
  obtain ⟨⟨l⟩⟩ := a; obtain ⟨⟨m⟩⟩ := b
  simp only at h
  rw [h]
theorem entK_data (p : BA × BA) : (entK p).data.toList = [98, 97, 110, 107, 47] ++ (p.2.data.toList ++ 47 :: p.1.data.toList) := by
  unfold entK
  simp [ByteArray.data_append]
theorem entK_inj {p q : BA × BA} (hp : accB p.1 = true) (hq : accB q.1 = true) (h : entK p = entK q) : p = q := by
  have e : (entK p).data.toList = (entK q).data.toList := by rw [h]
  rw [entK_data, entK_data] at e
  obtain ⟨e1, e2⟩ := cut_inj (acc_slash hp) (acc_slash hq) (List.append_cancel_left e)
  exact Prod.ext (bytes_ext e2) (bytes_ext e1)
/-- Two sorted lists of the entries of one bank are one. -/
theorem ents_eq {A B : List ((BA × BA) × Nat)} {M N : List (BA × BA)} (hA : (A.map Prod.fst).Nodup) (hn : ∀ x ∈ A, accB x.1.1 = true ∧ denB x.1.2 = true) (hp : A.Perm B)
    (hM : M.Perm (A.map entOf)) (hN : N.Perm (B.map entOf)) (sM : ByKeys M) (sN : ByKeys N) : M = N := by
  have hMN : M.Perm N := hM.trans ((hp.map entOf).trans hN.symm)
  refine List.Perm.eq_of_pairwise (le := fun x y => ¬ y.1.toList < x.1.toList) ?_ (List.pairwise_iff_getElem.2 fun i j hi hj h => sM i j hi hj h) (List.pairwise_iff_getElem.2 fun i j hi hj h => sN i j hi hj h) hMN
  intro a b ha hb h1 h2
  have e : a.1 = b.1 := bytes_inj (List.le_antisymm (List.not_lt.1 h1) (List.not_lt.1 h2))
  obtain ⟨x, hx, rfl⟩ := List.mem_map.1 (hM.mem_iff.1 ha)
  obtain ⟨y, hy, rfl⟩ := List.mem_map.1 (hM.mem_iff.1 (hMN.mem_iff.2 hb))
  have hk : x.1 = y.1 := entK_inj (hn x hx).1 (hn y hy).1 e
  obtain ⟨kx, vx⟩ := x
  obtain ⟨ky, vy⟩ := y
  simp only at hk
  subst hk
  have := ((mlook_iff hA).2 hx).symm.trans ((mlook_iff hA).2 hy)
  cases this
  rfl
/-! ### banks that are alike -/
def Like (b c : BS) : Prop := ∀ a d, b.bal a d = c.bal a d
theorem Like.refl (b : BS) : Like b b := fun _ _ => rfl
theorem Like.trans {a b c : BS} (h : Like a b) (k : Like b c) : Like a c := fun x y => (h x y).trans (k x y)
theorem look_bal {A : List ((BA × BA) × Nat)} (hp : ∀ x ∈ A, 0 < x.2) (a d : BA) : mlook A (a, d) = if balOf A a d = 0 then none else some (balOf A a d) := by
  unfold balOf
  cases h : mlook A (a, d) with
  | none => simp
  | some v =>
    have := hp _ (mlook_mem h)
    simp only at this
    rw [if_neg (by simp; omega)]
    rfl
theorem Like.perm {b c : BS} (h : Like b c) (hb : Good b) (hc : Good c) : b.A.Perm c.A := by
  refine perm_of_look hb.nA hc.nA ?_
  rintro ⟨a, d⟩
  have := h a d
  unfold BS.bal at this
  rw [look_bal hb.pos, look_bal hc.pos, this]
theorem Like.sup {b c : BS} (h : Like b c) (hb : Good b) (hc : Good c) (d : BA) : b.sup d = c.sup d := by rw [hb.sums, hc.sums]; exact total_perm (h.perm hb hc) d
theorem Like.ents {b c : BS} (h : Like b c) (hb : Good b) (hc : Good c) {M N : List (BA × BA)} (hM : M.Perm (b.A.map entOf)) (hN : N.Perm (c.A.map entOf)) (sM : ByKeys M) (sN : ByKeys N) : M = N :=
  ents_eq hb.nA hb.names (h.perm hb hc) hM hN sM sN
theorem Good.fits {b : BS} (h : Good b) : ∀ x ∈ b.A, x.1.1.size ≤ 16 ∧ x.1.2.size ≤ 40 ∧ x.2 ≤ 18446744073709551615 := by
  rintro ⟨⟨a, d⟩, n⟩ hx
  obtain ⟨h1, h2⟩ := h.names _ hx
  have e := (mlook_iff h.nA).2 hx
  have h3 := h.bal_le a d
  have h4 := h.top d
  unfold BS.bal balOf at h3
  rw [e] at h3
  unfold top64 at h4
  simp only [Option.getD_some] at h3
  exact ⟨acc_size h1, den_size h2, by simp only; omega⟩

/-! ### what an act does -/
theorem mint_cases (b : BS) (to d : BA) (n : Nat) : (mintF b to d n).1 ≠ 0 ∧ (mintF b to d n).2 = b ∨ checkV d n [to] = 0 ∧ b.sup d + n ≤ top64 ∨ top64 < b.sup d := by
  unfold mintF
  by_cases hc : checkV d n [to] = 0
  · rw [if_neg (by simpa using hc)]
    by_cases ho : top64 - b.sup d < n
    · rw [if_pos ho]; exact .inl ⟨by simp, rfl⟩
    · exact .inr (by omega)
  · rw [if_pos hc]; exact .inl ⟨hc, rfl⟩
theorem mint_bad {b : BS} {to d : BA} {n : Nat} (h : (mintF b to d n).1 ≠ 0) : (mintF b to d n).2 = b := by
  unfold mintF at h ⊢
  split
  · rfl
  · rw [if_neg (by assumption)] at h
    split
    · rfl
    · rw [if_neg (by assumption)] at h; exact absurd rfl h
theorem burn_bad {b : BS} {to d : BA} {n : Nat} (h : (burnF b to d n).1 ≠ 0) : (burnF b to d n).2 = b := by
  unfold burnF at h ⊢
  split
  · rfl
  · rw [if_neg (by assumption)] at h
    split
    · rfl
    · rw [if_neg (by assumption)] at h; exact absurd rfl h
theorem move_bad {b : BS} {a c d : BA} {n : Nat} (h : (moveF b a c d n).1 ≠ 0) : (moveF b a c d n).2 = b := by
  unfold moveF at h ⊢
  split
  · rfl
  · rw [if_neg (by assumption)] at h
    split
    · rfl
    · rw [if_neg (by assumption)] at h; exact absurd rfl h
theorem act_bad {b : BS} {a : ActS} (h : (actF b a).1 ≠ 0) : (actF b a).2 = b := by
  unfold actF at h ⊢
  split
  · rw [if_pos (by assumption)] at h; exact mint_bad h
  · rw [if_neg (by assumption)] at h
    split
    · rw [if_pos (by assumption)] at h; exact burn_bad h
    · rw [if_neg (by assumption)] at h
      split
      · rw [if_pos (by assumption)] at h; exact move_bad h
      · rfl
theorem mint_good {b : BS} {to d : BA} {n : Nat} (h : (mintF b to d n).1 = 0) : checkV d n [to] = 0 ∧ n ≤ top64 - b.sup d ∧ mintF b to d n = (0, ⟨putA b.A (to, d) (b.bal to d + n), mput b.S d (b.sup d + n)⟩) := by
  unfold mintF at h ⊢
  by_cases hc : checkV d n [to] = 0
  · rw [if_neg (by simpa using hc)] at h ⊢
    by_cases ho : top64 - b.sup d < n
    · rw [if_pos ho] at h; cases h
    · rw [if_neg ho]; exact ⟨hc, by omega, rfl⟩
  · rw [if_pos hc] at h; exact absurd h hc
theorem burn_good {b : BS} {a d : BA} {n : Nat} (h : (burnF b a d n).1 = 0) : checkV d n [a] = 0 ∧ n ≤ b.bal a d ∧ burnF b a d n = (0, ⟨putA b.A (a, d) (b.bal a d - n), mput b.S d (b.sup d - n)⟩) := by
  unfold burnF at h ⊢
  by_cases hc : checkV d n [a] = 0
  · rw [if_neg (by simpa using hc)] at h ⊢
    by_cases ho : b.bal a d < n
    · rw [if_pos ho] at h; cases h
    · rw [if_neg ho]; exact ⟨hc, by omega, rfl⟩
  · rw [if_pos hc] at h; exact absurd h hc
theorem move_good {b : BS} {a c d : BA} {n : Nat} (h : (moveF b a c d n).1 = 0) : checkV d n [a, c] = 0 ∧ n ≤ b.bal a d ∧ moveF b a c d n = (0, ⟨moveA b.A a c d n, b.S⟩) := by
  unfold moveF at h ⊢
  by_cases hc : checkV d n [a, c] = 0
  · rw [if_neg (by simpa using hc)] at h ⊢
    by_cases ho : b.bal a d < n
    · rw [if_pos ho] at h; cases h
    · rw [if_neg ho]; exact ⟨hc, by omega, rfl⟩
  · rw [if_pos hc] at h; exact absurd h hc
theorem mint_is {b : BS} {to d : BA} {n : Nat} (hc : checkV d n [to] = 0) (hn : n ≤ top64 - b.sup d) : mintF b to d n = (0, ⟨putA b.A (to, d) (b.bal to d + n), mput b.S d (b.sup d + n)⟩) := by
  unfold mintF; rw [if_neg (by simpa using hc), if_neg (by omega)]
theorem burn_is {b : BS} {a d : BA} {n : Nat} (hc : checkV d n [a] = 0) (hn : n ≤ b.bal a d) : burnF b a d n = (0, ⟨putA b.A (a, d) (b.bal a d - n), mput b.S d (b.sup d - n)⟩) := by
  unfold burnF; rw [if_neg (by simpa using hc), if_neg (by omega)]
theorem move_is {b : BS} {a c d : BA} {n : Nat} (hc : checkV d n [a, c] = 0) (hn : n ≤ b.bal a d) : moveF b a c d n = (0, ⟨moveA b.A a c d n, b.S⟩) := by
  unfold moveF; rw [if_neg (by simpa using hc), if_neg (by omega)]
/-- A check asks the same of a lesser amount that is not none. -/
theorem check_less {d : BA} {n k : Nat} {accs : List BA} (h : checkV d n accs = 0) (hk : 0 < k) : checkV d k accs = 0 := by
  obtain ⟨h1, h2, _⟩ := check_zero h
  unfold checkV
  rw [h1, h2, if_neg (by simp), if_neg (by omega)]
theorem check_swap {d : BA} {n : Nat} {a c : BA} (h : checkV d n [a, c] = 0) : checkV d n [c, a] = 0 := by
  obtain ⟨h1, h2, _⟩ := check_zero h
  simp only [List.all_cons, List.all_nil, Bool.and_true, Bool.and_eq_true] at h2
  unfold checkV
  rw [h1, if_neg (by simp [h2.1, h2.2]), if_neg (by omega)]
theorem bal_put (b : BS) (S : List (BA × Nat)) (a d : BA) (n : Nat) (a' d' : BA) : BS.bal ⟨putA b.A (a, d) n, S⟩ a' d' = if (a', d') = (a, d) then n else b.bal a' d' := bal_putA _ _ _ _ _ _
theorem sup_mput (b : BS) (A : List ((BA × BA) × Nat)) (d : BA) (n : Nat) (d' : BA) : BS.sup ⟨A, mput b.S d n⟩ d' = if d' = d then n else b.sup d' := sup_put _ _ _ _
theorem bal_move (b : BS) (S : List (BA × Nat)) (a c d : BA) (n : Nat) (a' d' : BA) : BS.bal ⟨moveA b.A a c d n, S⟩ a' d' = if (a', d') = (c, d) then (if c = a then b.bal a d - n else b.bal c d) + n else if (a', d') = (a, d) then b.bal a d - n else b.bal a' d' := by
  show balOf (moveA b.A a c d n) a' d' = _
  unfold moveA BS.bal
  rw [bal_putA, bal_putA, bal_putA]
  by_cases h : c = a
  · subst h; simp
  · have : ¬ (c, d) = (a, d) := fun e => h (Prod.mk.inj e).1
    simp [h]

/-! ### the sums -/
theorem sup_mint {b : BS} {to d : BA} {n : Nat} (h : (mintF b to d n).1 = 0) : (mintF b to d n).2.sup d = b.sup d + n ∧ b.sup d + n ≤ top64 ∨ top64 < b.sup d := by
  obtain ⟨_, h2, h3⟩ := mint_good h
  rw [h3]
  by_cases ht : b.sup d ≤ top64
  · refine .inl ⟨?_, by omega⟩
    show BS.sup ⟨_, mput b.S d (b.sup d + n)⟩ d = _
    rw [sup_mput, if_pos rfl]
  · exact .inr (by omega)
theorem sup_burn {b : BS} {a d : BA} {n : Nat} (hg : Good b) (h : (burnF b a d n).1 = 0) : (burnF b a d n).2.sup d = b.sup d - n ∧ n ≤ b.sup d := by
  obtain ⟨_, h2, h3⟩ := burn_good h
  rw [h3]
  refine ⟨?_, Nat.le_trans h2 (hg.bal_le a d)⟩
  show BS.sup ⟨_, mput b.S d (b.sup d - n)⟩ d = _
  rw [sup_mput, if_pos rfl]
theorem sup_act1 {b : BS} {a : ActS} (hg : Good b) (hk : a.kind = 1) (h : (actF b a).1 = 0) : (actF b a).2.sup a.denom = b.sup a.denom + a.n ∧ b.sup a.denom + a.n ≤ top64 := by
  have e : actF b a = mintF b a.to a.denom a.n := by unfold actF; rw [if_pos hk]
  rw [e] at h ⊢
  exact (sup_mint h).resolve_right (by have := hg.top a.denom; omega)
theorem sup_act2 {b : BS} {a : ActS} (hg : Good b) (hk : a.kind = 2) (h : (actF b a).1 = 0) : (actF b a).2.sup a.denom = b.sup a.denom - a.n ∧ a.n ≤ b.sup a.denom := by
  have e : actF b a = burnF b a.from_ a.denom a.n := by unfold actF; rw [if_neg (by omega), if_pos hk]
  rw [e] at h ⊢
  exact sup_burn hg h
theorem sup_act3 {b : BS} {a : ActS} (h1 : a.kind ≠ 1) (h2 : a.kind ≠ 2) (d : BA) : (actF b a).2.sup d = b.sup d := by
  unfold actF
  rw [if_neg h1, if_neg h2]
  split
  · unfold moveF
    split
    · rfl
    · split <;> rfl
  · rfl
theorem length_act (b : BS) (a : ActS) : (actF b a).2.A.length ≤ b.A.length + 2 := by
  unfold actF
  split
  · unfold mintF
    split
    · exact Nat.le_add_right _ _
    · split
      · exact Nat.le_add_right _ _
      · exact Nat.le_trans (length_putA _ _ _) (by omega)
  · split
    · unfold burnF
      split
      · exact Nat.le_add_right _ _
      · split
        · exact Nat.le_add_right _ _
        · exact Nat.le_trans (length_putA _ _ _) (by omega)
    · split
      · unfold moveF
        split
        · exact Nat.le_add_right _ _
        · split
          · exact Nat.le_add_right _ _
          · exact Nat.le_trans (length_putA _ _ _) (Nat.succ_le_succ (length_putA _ _ _))
      · exact Nat.le_add_right _ _

/-! ### there and back -/
theorem length_mint (b : BS) (to d : BA) (n : Nat) : (mintF b to d n).2.A.length ≤ b.A.length + 1 := by
  unfold mintF
  split
  · exact Nat.le_add_right _ _
  · split
    · exact Nat.le_add_right _ _
    · exact length_putA _ _ _
theorem length_burn (b : BS) (to d : BA) (n : Nat) : (burnF b to d n).2.A.length ≤ b.A.length + 1 := by
  unfold burnF
  split
  · exact Nat.le_add_right _ _
  · split
    · exact Nat.le_add_right _ _
    · exact length_putA _ _ _
theorem length_move (b : BS) (a c d : BA) (n : Nat) : (moveF b a c d n).2.A.length ≤ b.A.length + 2 := by
  unfold moveF
  split
  · exact Nat.le_add_right _ _
  · split
    · exact Nat.le_add_right _ _
    · exact Nat.le_trans (length_putA _ _ _) (Nat.succ_le_succ (length_putA _ _ _))
theorem back_move {b : BS} {a c d : BA} {n : Nat} (h : (moveF b a c d n).1 = 0) : (moveF (moveF b a c d n).2 c a d n).1 = 0 ∧ Like (moveF (moveF b a c d n).2 c a d n).2 b := by
  obtain ⟨h1, h2, h3⟩ := move_good h
  rw [h3]
  have hn : n ≤ BS.bal ⟨moveA b.A a c d n, b.S⟩ c d := by rw [bal_move, if_pos rfl]; omega
  have h4 := move_is (b := ⟨moveA b.A a c d n, b.S⟩) (check_swap h1) hn
  simp only [h4]
  refine ⟨trivial, fun a' d' => ?_⟩
  have e := bal_move ⟨moveA b.A a c d n, b.S⟩ b.S c a d n a' d'
  rw [e, bal_move, bal_move, bal_move]
  simp only [Prod.mk.injEq]
  by_cases hca : a = c
  · subst hca
    by_cases hx : a' = a ∧ d' = d
    · obtain ⟨rfl, rfl⟩ := hx; simp; omega
    · simp [hx]
  · have hac : ¬ c = a := fun e => hca e.symm
    by_cases hx : a' = a ∧ d' = d
    · obtain ⟨rfl, rfl⟩ := hx; simp [hca]; omega
    · by_cases hy : a' = c ∧ d' = d
      · obtain ⟨rfl, rfl⟩ := hy; simp [hac]
      · simp [hx, hy]
theorem back_mint {b : BS} {a d : BA} {n : Nat} (h : (mintF b a d n).1 = 0) : (burnF (mintF b a d n).2 a d n).1 = 0 ∧ Like (burnF (mintF b a d n).2 a d n).2 b := by
  obtain ⟨h1, h2, h3⟩ := mint_good h
  rw [h3]
  have hb : BS.bal ⟨putA b.A (a, d) (b.bal a d + n), mput b.S d (b.sup d + n)⟩ a d = b.bal a d + n := by rw [bal_put, if_pos rfl]
  have h4 := burn_is (b := ⟨putA b.A (a, d) (b.bal a d + n), mput b.S d (b.sup d + n)⟩) (a := a) h1 (by rw [hb]; omega)
  simp only [h4]
  refine ⟨trivial, fun a' d' => ?_⟩
  have e := bal_put ⟨putA b.A (a, d) (b.bal a d + n), mput b.S d (b.sup d + n)⟩ (mput (mput b.S d (b.sup d + n)) d (BS.sup ⟨putA b.A (a, d) (b.bal a d + n), mput b.S d (b.sup d + n)⟩ d - n)) a d (BS.bal ⟨putA b.A (a, d) (b.bal a d + n), mput b.S d (b.sup d + n)⟩ a d - n) a' d'
  rw [e, hb, bal_put]
  by_cases hx : (a', d') = (a, d)
  · rw [if_pos hx]; cases hx; omega
  · rw [if_neg hx, if_neg hx]

/-! ### in parts -/
theorem parts {b : BS} {a : ActS} (hg : Good b) (hk : a.kind = 1 ∨ a.kind = 2 ∨ a.kind = 3) (h : (actF b a).1 = 0) (k : Nat) (h0 : 0 < k) (h1 : k < a.n) :
    (actF b { a with n := k }).1 = 0 ∧ (actF (actF b { a with n := k }).2 { a with n := a.n - k }).1 = 0 ∧ Like (actF b a).2 (actF (actF b { a with n := k }).2 { a with n := a.n - k }).2 := by
  obtain ⟨kd, f, t, d, n⟩ := a
  simp only at hk h1 ⊢
  rcases hk with rfl | rfl | rfl
  · have e : ∀ b n, actF b ⟨1, f, t, d, n⟩ = mintF b t d n := fun b n => by unfold actF; simp
    rw [e] at h
    simp only [e]
    obtain ⟨c1, c2, c3⟩ := mint_good h
    have htop := hg.top d
    have f1 := mint_is (b := b) (to := t) (check_less c1 h0) (by omega : k ≤ top64 - b.sup d)
    have hs : BS.sup ⟨putA b.A (t, d) (b.bal t d + k), mput b.S d (b.sup d + k)⟩ d = b.sup d + k := by rw [sup_mput, if_pos rfl]
    have f2 := mint_is (b := ⟨putA b.A (t, d) (b.bal t d + k), mput b.S d (b.sup d + k)⟩) (to := t) (d := d) (n := n - k) (check_less c1 (by omega)) (by rw [hs]; omega)
    rw [f1, f2, c3]
    refine ⟨rfl, rfl, fun a' d' => ?_⟩
    simp only
    rw [bal_put]
    have e2 := bal_put ⟨putA b.A (t, d) (b.bal t d + k), mput b.S d (b.sup d + k)⟩ (mput (mput b.S d (b.sup d + k)) d (BS.sup ⟨putA b.A (t, d) (b.bal t d + k), mput b.S d (b.sup d + k)⟩ d + (n - k))) t d (BS.bal ⟨putA b.A (t, d) (b.bal t d + k), mput b.S d (b.sup d + k)⟩ t d + (n - k)) a' d'
    rw [e2, bal_put, bal_put, if_pos rfl]
    by_cases hx : (a', d') = (t, d)
    · rw [if_pos hx, if_pos hx]; omega
    · rw [if_neg hx, if_neg hx, if_neg hx]
  · have e : ∀ b n, actF b ⟨2, f, t, d, n⟩ = burnF b f d n := fun b n => by unfold actF; simp
    rw [e] at h
    simp only [e]
    obtain ⟨c1, c2, c3⟩ := burn_good h
    have f1 := burn_is (b := b) (a := f) (check_less c1 h0) (by omega : k ≤ b.bal f d)
    have hs : BS.bal ⟨putA b.A (f, d) (b.bal f d - k), mput b.S d (b.sup d - k)⟩ f d = b.bal f d - k := by rw [bal_put, if_pos rfl]
    have f2 := burn_is (b := ⟨putA b.A (f, d) (b.bal f d - k), mput b.S d (b.sup d - k)⟩) (a := f) (d := d) (n := n - k) (check_less c1 (by omega)) (by rw [hs]; omega)
    rw [f1, f2, c3]
    refine ⟨rfl, rfl, fun a' d' => ?_⟩
    simp only
    rw [bal_put]
    have e2 := bal_put ⟨putA b.A (f, d) (b.bal f d - k), mput b.S d (b.sup d - k)⟩ (mput (mput b.S d (b.sup d - k)) d (BS.sup ⟨putA b.A (f, d) (b.bal f d - k), mput b.S d (b.sup d - k)⟩ d - (n - k))) f d (BS.bal ⟨putA b.A (f, d) (b.bal f d - k), mput b.S d (b.sup d - k)⟩ f d - (n - k)) a' d'
    rw [e2, bal_put, bal_put, if_pos rfl]
    by_cases hx : (a', d') = (f, d)
    · rw [if_pos hx, if_pos hx]; omega
    · rw [if_neg hx, if_neg hx, if_neg hx]
  · have e : ∀ b n, actF b ⟨3, f, t, d, n⟩ = moveF b f t d n := fun b n => by unfold actF; simp
    rw [e] at h
    simp only [e]
    obtain ⟨c1, c2, c3⟩ := move_good h
    have f1 := move_is (b := b) (a := f) (c := t) (check_less c1 h0) (by omega : k ≤ b.bal f d)
    have hs : n - k ≤ BS.bal ⟨moveA b.A f t d k, b.S⟩ f d := by
      rw [bal_move]
      by_cases hx : (f, d) = (t, d)
      · rw [if_pos hx]; cases hx; rw [if_pos rfl]; omega
      · rw [if_neg hx, if_pos rfl]; omega
    have f2 := move_is (b := ⟨moveA b.A f t d k, b.S⟩) (a := f) (c := t) (d := d) (n := n - k) (check_less c1 (by omega)) hs
    rw [f1, f2, c3]
    refine ⟨rfl, rfl, fun a' d' => ?_⟩
    simp only
    have e2 := bal_move ⟨moveA b.A f t d k, b.S⟩ b.S f t d (n - k) a' d'
    rw [e2, bal_move, bal_move, bal_move, bal_move]
    simp only [Prod.mk.injEq]
    by_cases hca : t = f
    · subst hca
      by_cases hx : a' = t ∧ d' = d
      · obtain ⟨rfl, rfl⟩ := hx; simp; omega
      · simp [hx]
    · have hac : ¬ f = t := fun e => hca e.symm
      by_cases hx : a' = t ∧ d' = d
      · obtain ⟨rfl, rfl⟩ := hx; simp [hca]; omega
      · by_cases hy : a' = f ∧ d' = d
        · obtain ⟨rfl, rfl⟩ := hy; simp [hac]; omega
        · simp [hx, hy]
end Go.Proofs.YtjghnfnlhmhmkaaDoor
