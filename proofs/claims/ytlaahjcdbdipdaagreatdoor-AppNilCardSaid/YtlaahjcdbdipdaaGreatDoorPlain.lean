/- The plain law: what the acts do to the sums; there and back; in parts; two lists of entries of like banks are one. -/
import Derived.Test.YtlaahjcdbdipdaaGreatDoorRun
namespace Go.Proofs.YtlaahjcdbdipdaaGreatDoor
open Go Go.RowKit

/-! ### an entry's key tells its purse -/
theorem cut_inj : ∀ {d1 d2 a1 a2 : List UInt8}, (47 : UInt8) ∉ a1 → (47 : UInt8) ∉ a2 → d1 ++ 47 :: a1 = d2 ++ 47 :: a2 → d1 = d2 ∧ a1 = a2
  | [], [], _, _, _, _, h => ⟨rfl, (List.cons.inj h).2⟩
  | [], y :: d2, a1, a2, h1, _, h => by
    have := (List.cons.inj h).2
    exact absurd (by rw [this]; simp) h1
  | x :: d1, [], a1, a2, _, h2, h => by
    have := (List.cons.inj h).2
    exact absurd (by rw [← this]; simp) h2
  | x :: d1, y :: d2, a1, a2, h1, h2, h => by
    obtain ⟨e1, e2⟩ := List.cons.inj h
    obtain ⟨e3, e4⟩ := cut_inj h1 h2 e2
    exact ⟨by rw [e1, e3], e4⟩
theorem acc_slash {a : BA} (h : accB a = true) : (47 : UInt8) ∉ a.data.toList := by
  unfold accB ofB at h
  simp only [Bool.and_eq_true] at h
  intro hm
  exact absurd (allOf_iff.1 h.2 47 hm) (by decide)
theorem acc_size {a : BA} (h : accB a = true) : a.size ≤ 16 := by
  unfold accB ofB at h
  simp only [Bool.and_eq_true, decide_eq_true_eq] at h
  exact h.1.2
theorem den_size {d : BA} (h : denB d = true) : d.size ≤ 40 := by
  unfold denB ofB at h
  simp only [Bool.and_eq_true, decide_eq_true_eq] at h
  exact h.1.1.2
theorem bytes_ext {a b : BA} (h : a.data.toList = b.data.toList) : a = b := by
  obtain ⟨⟨l⟩⟩ := a; obtain ⟨⟨m⟩⟩ := b
  simp only at h
  rw [h]
theorem entK_data (p : BA × BA) : (entK p).data.toList = [98, 97, 110, 107, 47] ++ (p.2.data.toList ++ 47 :: p.1.data.toList) := by
  unfold entK
  simp [ByteArray.data_append]
theorem entK_inj {p q : BA × BA} (hp : accB p.1 = true) (hq : accB q.1 = true) (h : entK p = entK q) : p = q := by
  have e : (entK p).data.toList = (entK q).data.toList := by rw [h]
  rw [entK_data, entK_data] at e
  obtain ⟨e1, e2⟩ := cut_inj (acc_slash hp) (acc_slash hq) (List.append_cancel_left e)
  exact Prod.ext (bytes_ext e2) (bytes_ext e1)
/-- Two sorted lists of the entries of one bank are one. -/
theorem ents_eq {A B : List ((BA × BA) × Nat)} {M N : List (BA × BA)} (hA : (A.map Prod.fst).Nodup) (hn : ∀ x ∈ A, accB x.1.1 = true ∧ denB x.1.2 = true) (hp : A.Perm B)
    (hM : M.Perm (A.map entOf)) (hN : N.Perm (B.map entOf)) (sM : ByKeys M) (sN : ByKeys N) : M = N := by
  have hMN : M.Perm N := hM.trans ((hp.map entOf).trans hN.symm)
  refine List.Perm.eq_of_pairwise (le := fun x y => ¬ y.1.toList < x.1.toList) ?_ (List.pairwise_iff_getElem.2 fun i j hi hj h => sM i j hi hj h) (List.pairwise_iff_getElem.2 fun i j hi hj h => sN i j hi hj h) hMN
  intro a b ha hb h1 h2
  have e : a.1 = b.1 := bytes_inj (List.le_antisymm (List.not_lt.1 h1) (List.not_lt.1 h2))
  obtain ⟨x, hx, rfl⟩ := List.mem_map.1 (hM.mem_iff.1 ha)
  obtain ⟨y, hy, rfl⟩ := List.mem_map.1 (hM.mem_iff.1 (hMN.mem_iff.2 hb))
  have hk : x.1 = y.1 := entK_inj (hn x hx).1 (hn y hy).1 e
  obtain ⟨kx, vx⟩ := x
  obtain ⟨ky, vy⟩ := y
  simp only at hk
  subst hk
  have := ((mlook_iff hA).2 hx).symm.trans ((mlook_iff hA).2 hy)
  cases this
  rfl
/-! ### banks that are alike -/
def Like (b c : BS) : Prop := ∀ a d, b.bal a d = c.bal a d
theorem Like.refl (b : BS) : Like b b := fun _ _ => rfl
theorem Like.trans {a b c : BS} (h : Like a b) (k : Like b c) : Like a c := fun x y => (h x y).trans (k x y)
theorem look_bal {A : List ((BA × BA) × Nat)} (hp : ∀ x ∈ A, 0 < x.2) (a d : BA) : mlook A (a, d) = if balOf A a d = 0 then none else some (balOf A a d) := by
  unfold balOf
  cases h : mlook A (a, d) with
  | none => simp
  | some v =>
    have := hp _ (mlook_mem h)
    simp only at this
    rw [if_neg (by simp; omega)]
    rfl
theorem Like.perm {b c : BS} (h : Like b c) (hb : Good b) (hc : Good c) : b.A.Perm c.A := by
  refine perm_of_look hb.nA hc.nA ?_
  rintro ⟨a, d⟩
  have := h a d
  unfold BS.bal at this
  rw [look_bal hb.pos, look_bal hc.pos, this]
theorem Like.sup {b c : BS} (h : Like b c) (hb : Good b) (hc : Good c) (d : BA) : b.sup d = c.sup d := by rw [hb.sums, hc.sums]; exact total_perm (h.perm hb hc) d
theorem Like.ents {b c : BS} (h : Like b c) (hb : Good b) (hc : Good c) {M N : List (BA × BA)} (hM : M.Perm (b.A.map entOf)) (hN : N.Perm (c.A.map entOf)) (sM : ByKeys M) (sN : ByKeys N) : M = N :=
  ents_eq hb.nA hb.names (h.perm hb hc) hM hN sM sN
theorem Good.fits {b : BS} (h : Good b) : ∀ x ∈ b.A, x.1.1.size ≤ 16 ∧ x.1.2.size ≤ 40 ∧ x.2 ≤ 18446744073709551615 := by
  rintro ⟨⟨a, d⟩, n⟩ hx
  obtain ⟨h1, h2⟩ := h.names _ hx
  have e := (mlook_iff h.nA).2 hx
  have h3 := h.bal_le a d
  have h4 := h.top d
  unfold BS.bal balOf at h3
  rw [e] at h3
  unfold top64 at h4
  simp only [Option.getD_some] at h3
  exact ⟨acc_size h1, den_size h2, by simp only; omega⟩

/-! ### what an act does -/
theorem mint_cases (b : BS) (to d : BA) (n : Nat) : (mintF b to d n).1 ≠ 0 ∧ (mintF b to d n).2 = b ∨ checkV d n [to] = 0 ∧ b.sup d + n ≤ top64 ∨ top64 < b.sup d := by
  unfold mintF
  by_cases hc : checkV d n [to] = 0
  · rw [if_neg (by simpa using hc)]
    by_cases ho : top64 - b.sup d < n
    · rw [if_pos ho]; exact .inl ⟨by simp, rfl⟩
    · exact .inr (by omega)
  · rw [if_pos hc]; exact .inl ⟨hc, rfl⟩
theorem mint_bad {b : BS} {to d : BA} {n : Nat} (h : (mintF b to d n).1 ≠ 0) : (mintF b to d n).2 = b := by
  unfold mintF at h ⊢
  split
  · rfl
  · rw [if_neg (by assumption)] at h
    split
    · rfl
    · rw [if_neg (by assumption)] at h; exact absurd rfl h
theorem burn_bad {b : BS} {to d : BA} {n : Nat} (h : (burnF b to d n).1 ≠ 0) : (burnF b to d n).2 = b := by
  unfold burnF at h ⊢
  split
  · rfl
  · rw [if_neg (by assumption)] at h
    split
    · rfl
    · rw [if_neg (by assumption)] at h; exact absurd rfl h
theorem move_bad {b : BS} {a c d : BA} {n : Nat} (h : (moveF b a c d n).1 ≠ 0) : (moveF b a c d n).2 = b := by
  unfold moveF at h ⊢
  split
  · rfl
  · rw [if_neg (by assumption)] at h
    split
    · rfl
    · rw [if_neg (by assumption)] at h; exact absurd rfl h
end Go.Proofs.YtlaahjcdbdipdaaGreatDoor
