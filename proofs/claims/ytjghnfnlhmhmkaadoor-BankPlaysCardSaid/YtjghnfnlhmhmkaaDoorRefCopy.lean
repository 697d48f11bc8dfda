/- The document's Copy. -/
import Derived.Test.YtjghnfnlhmhmkaaDoorRefSorted
namespace Go.Proofs.YtjghnfnlhmhmkaaDoor
open Go Go.RowKit Go.MapKept Go.ChangeMaps

def RefCopyPost (w : World) (B : Nat) (L : List ((BA × BA) × Nat)) (e : Ending) (w' : World) : Prop :=
  ∃ q', e = .returned (ptr q') ∧ RefHas w' q' B L ∧ w.heap.size ≤ q' ∧ Kept Nowhere w w'
theorem reads_cells {w : World} {a : Option Addr} {n cap : Nat} {L : List ((BA × BA) × Nat)} (h : ∀ i x, L[i]? = some x → ∃ g, a = some ⟨g, 0, none⟩ ∧ g < w.heap.size ∧ w.cell? ⟨g, i * 3, none⟩ = some (.string x.1.1) ∧ w.cell? ⟨g, i * 3 + 1, none⟩ = some (.string x.1.2) ∧ w.cell? ⟨g, i * 3 + 2, none⟩ = some (u64V x.2))
    {g : Nat} (hg : a = some ⟨g, 0, none⟩) : ∀ (j : Nat) (u : Value), (L.flatMap encAm)[j]? = some u → w.cell? ((⟨g, 0, none⟩ : Addr).add j) = some u := by
  intro j u hu
  have hf := flat_at (enc := encAm) (k := 3) (fun _ => rfl) L (j / 3) (j % 3) (by omega)
  rw [show j / 3 * 3 + j % 3 = j by omega, hu] at hf
  cases hx : L[j / 3]? with
  | none => rw [hx] at hf; cases hf
  | some x =>
    rw [hx, Option.bind_some] at hf
    obtain ⟨g', hg', _, c0, c1, c2⟩ := h _ _ hx
    rw [hg] at hg'
    cases hg'
    rw [add_none, Nat.zero_add]
    rcases (show j % 3 = 0 ∨ j % 3 = 1 ∨ j % 3 = 2 by omega) with e | e | e
    · rw [e] at hf
      rw [show j / 3 * 3 = j by omega] at c0
      rw [c0]; exact hf.symm
    · rw [e] at hf
      rw [show j / 3 * 3 + 1 = j by omega] at c1
      rw [c1]; exact hf.symm
    · rw [e] at hf
      rw [show j / 3 * 3 + 2 = j by omega] at c2
      rw [c2]; exact hf.symm
theorem enc_one (L : List ((BA × BA) × Nat)) : ∀ u ∈ L.flatMap encAm, u.oneCell' = true := by
  intro u hu
  obtain ⟨x, _, hx⟩ := List.mem_flatMap.1 hu
  simp only [encAm, List.mem_cons, List.mem_nil_iff, or_false] at hx
  rcases hx with rfl | rfl | rfl <;> rfl
theorem own_none (w : World) : (w.alloc (.cells #[] 65)).ownsRow w.heap.size 65 3 (.slice (some ⟨w.heap.size, 0, none⟩) 0 0) 0 [] :=
  ⟨rfl, Or.inr ⟨w.heap.size, 0, #[], rfl, Nat.le_refl _, heap_alloc_new w _, Nat.le_refl _, Nat.zero_le _, rfl, rfl⟩⟩
theorem boxed {w W : World} {B : Nat} {v : Value} {L : List ((BA × BA) × Nat)} (hk : Kept Nowhere w W) (hr : ReadsAm W v L) (hb : ∀ k, v.ownBlock = some k → B ≤ k ∧ k < W.heap.size) :
    RefCopyPost w B L (.returned (ptr W.heap.size)) (W.alloc (.cells #[v] 44)) :=
  ⟨_, rfl, ⟨v, ⟨heap_alloc_new W _, hr.kept ((Kept.refl Nowhere W).alloc _) (fun _ _ => id), fun e => absurd (hb _ e).2 (Nat.lt_irrefl _)⟩, fun k hk' => (hb k hk').1⟩, hk.size, hk.alloc _⟩
set_option maxRecDepth 100000 in
set_option maxHeartbeats 3200000 in
theorem RefCopy_any (w : World) (q B : Nat) (L : List ((BA × BA) × Nat)) (h : RefHas w q B L) (hB : B ≤ w.heap.size) (hll : L.length ≤ 100000) :
    Calls Tryd.prog 19 #[ptr q] w (RefCopyPost w B L) := by
  obtain ⟨i0, hi0, hz0, hz1, hz2⟩ := info_parts infoAm
  obtain ⟨v, hr, _⟩ := h
  have hc0 := hr.c0
  obtain ⟨ad, cap, rfl, hmax, hv⟩ := hr.reads
  by_cases h0 : L = []
  · subst h0
    simp only [List.length_nil] at hc0
    have hqlt := hr.lt
    clear hv hmax hll hr
    go_enter Tryd.func19, Tryd.ntmps19
    have hp : ∀ W, Sem.run Tryd.prog (pure #[] : Sem (Array Value)) W = .ok #[] W := fun _ => rfl
    have hst : ∀ a W, Sem.run Tryd.prog (storeCells a []) W = .ok () W := fun _ _ => rfl
    have HBX := Lib.hid (boxed (w := w) (W := w.alloc (.cells #[] 65)) (B := B) (v := .slice (some ⟨w.heap.size, 0, none⟩) 0 0) (L := []) ((Kept.refl Nowhere w).alloc _) ⟨_, 0, rfl, by simp, by simp⟩
      (fun k hk' => by have e : w.heap.size = k := Option.some.inj hk'; simp; omega))
    rw [show (w.alloc (.cells #[] 65)).heap.size = w.heap.size + 1 by simp] at HBX
    rcases ad with _ | ⟨g, o, sp⟩
    · go_wp2_with fail
      go_ret
      exact HBX.out
    · go_wp2_with fail
      go_ret
      exact HBX.out
  · obtain ⟨n, hln⟩ : ∃ n, n = L.length := ⟨_, rfl⟩
    rw [← hln] at hc0 hll
    have hn0 : 0 < n := by
      cases L with
      | nil => exact absurd rfl h0
      | cons x l => rw [hln]; simp
    obtain ⟨x0, hx0⟩ : ∃ x, L[0]? = some x := ⟨_, List.getElem?_eq_getElem (by omega)⟩
    obtain ⟨g, rfl, hg, _⟩ := hv 0 x0 hx0
    have hqlt := hr.lt
    have HC := Lib.hid (reads_cells (n := n) (cap := cap) hv rfl)
    have HLN := Lib.hid hln
    have HFL := Lib.hid (show (L.flatMap encAm).length = n * 3 by rw [flat_length (enc := encAm) (k := 3) (fun _ => rfl), ← hln])
    have HNW := Lib.hid (show ∀ (j : Nat) (u : Value), (L.flatMap encAm)[j]? = some u → (w.alloc (.cells #[] 65)).cell? ((⟨g, 0, none⟩ : Addr).add j) = some u from fun j u hu => by
      have h1 := HC.out j u hu
      rw [add_none] at h1 ⊢
      exact (((Kept.refl Nowhere w).alloc _).cell (p := ⟨g, 0 + j, none⟩) hg id).trans h1)
    clear hv hmax hr hx0 h0 hln
    go_enter Tryd.func19, Tryd.ntmps19
    go_wp2_with (at_builtin; refine wpList_append_lies _ rfl _ _ _ rfl w.heap.size 65 i0 _ 3 40 Tryd.underlying42 hi0 hz0 hz1 hz2 rfl (by omega) (.slice (some ⟨w.heap.size, 0, none⟩) 0 0) 0 [] rfl (own_none w) ⟨g, 0, none⟩ n cap (L.flatMap encAm) rfl HFL.out HNW.out (enc_one L) hn0 (by unfold maxLen; omega) (by omega) (by simp) (w.heap.size + 1) (by simp) ?_; intro g1 cap1 w5 hown5 hgrow hat hlt5)
    have hk5 : Kept Nowhere w w5 := ((Kept.refl Nowhere w).alloc _).andThen (Kept.of_grown hgrow) (fun i hi e => by have : w.heap.size = i := Option.some.inj e; omega)
    have hg1 : w.heap.size ≤ g1 := own_apart (k := g1) hown5 rfl
    rw [Nat.zero_add, List.nil_append] at hown5
    have HO := Lib.hid (show ReadsAm w5 (.slice (some ⟨g1, 0, none⟩) n cap1) L by
      have e := HLN.out
      rw [e] at hown5 ⊢
      exact readsAm_of_own hown5 (by omega))
    have HK := Lib.hid (And.intro hk5 (And.intro hg1 hlt5))
    clear hk5 hg1 hown5 hgrow hat hlt5
    go_wp2_with fail
    go_ret
    exact boxed HK.out.1 HO.out (fun k hk' => by
      have e : g1 = k := Option.some.inj hk'
      have := HK.out.2
      omega)
end Go.Proofs.YtjghnfnlhmhmkaaDoor
