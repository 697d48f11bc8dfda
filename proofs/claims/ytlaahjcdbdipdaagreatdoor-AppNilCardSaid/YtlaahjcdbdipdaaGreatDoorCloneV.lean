/- A set, copied: the contract of slices.Clone at validators. -/
import Derived.Test.YtlaahjcdbdipdaaGreatDoorVals
import Derived.Test.YtlaahjcdbdipdaaGreatDoorRows0
import Derived.Lib.SliceRun
import Derived.Lib.Walk
namespace Go.Proofs.YtlaahjcdbdipdaaGreatDoor
open Go Go.RowKit Go.MapKept Go.ChangeMaps

theorem infoVal : (Tryz.prog.info? 100).map (fun i => (i.zero, i.size, i.bytes)) = some (some (.agg #[.int .u64 0, .int .i64 0]), 2, 16) := by kernel_rfl
theorem valC_length (x : Val) : (valC x).length = 2 := rfl
theorem valC_one (l : List Val) : ∀ u ∈ l.flatMap valC, u.oneCell' = true := fun u hu => by
  obtain ⟨x, _, hx⟩ := List.mem_flatMap.1 hu
  simp [valC] at hx
  rcases hx with rfl | rfl <;> rfl
theorem vals_cells {w : World} {g o : Nat} {l : List Val} (h : ∀ i x, l[i]? = some x → w.cell? ⟨g, o + i * 2, none⟩ = some (u64V x.1) ∧ w.cell? ⟨g, o + i * 2 + 1, none⟩ = some (i64V x.2)) :
    ∀ j u, (l.flatMap valC)[j]? = some u → w.cell? ((⟨g, o, none⟩ : Addr).add j) = some u := fun j u hu => by
  have hf := flat_at (enc := valC) (k := 2) (fun _ => rfl) l (j / 2) (j % 2) (by omega)
  rw [show j / 2 * 2 + j % 2 = j by omega, hu] at hf
  rw [add_none]
  cases hx : l[j / 2]? with
  | none => rw [hx] at hf; cases hf
  | some x =>
    rw [hx] at hf
    obtain ⟨c0, c1⟩ := h _ x hx
    rcases Nat.mod_two_eq_zero_or_one j with e | e
    · rw [e] at hf
      simp [valC] at hf
      rw [hf, show o + j = o + j / 2 * 2 by omega]; exact c0
    · rw [e] at hf
      simp [valC] at hf
      rw [hf, show o + j = o + j / 2 * 2 + 1 by omega]; exact c1
theorem own_row {w : World} {base e size n : Nat} {v : Value} {xs : List Value} (h : w.ownsRow base e size v n xs) {g : Nat} (hg : v.ownBlock = some g) : base ≤ g ∧ g < w.heap.size := by
  rcases h.2 with ⟨rfl, _⟩ | ⟨g', cap, cur, rfl, hb, hh, _⟩
  · cases hg
  · simp only [Value.ownBlock, Option.some.injEq] at hg
    subst hg
    exact ⟨hb, (Array.getElem?_eq_some_iff.1 hh).1⟩
/-- What a slice of validators owns may be read. -/
theorem vals_of_own {w : World} {base : Nat} {v : Value} {l : List Val} (h : w.ownsRow base 100 2 v l.length (l.flatMap valC)) (hf : ∀ x ∈ l, x.Fit) (hl : l.length ≤ maxLen) : ValsAt w v l := by
  rcases h.2 with ⟨rfl, h0⟩ | ⟨g, cap, cur, rfl, hg, hh, hc1, hc2, hc3, ht⟩
  · have : l = [] := List.eq_nil_of_length_eq_zero h0
    subst this
    exact ⟨none, 0, rfl, hl, Nat.le_refl _, fun i x hx => by simp at hx⟩
  · refine ⟨some ⟨g, 0, none⟩, cap, rfl, hl, hc1, fun i x hx => ⟨hf x (List.mem_of_getElem? hx), g, 0, rfl, (Array.getElem?_eq_some_iff.1 hh).1, ?_, ?_⟩⟩
    · have hf0 := flat_at (enc := valC) (k := 2) (fun _ => rfl) l i 0 (by omega)
      rw [hx] at hf0
      rw [Nat.zero_add]
      exact (own_cell hh ht hf0).1
    · have hf0 := flat_at (enc := valC) (k := 2) (fun _ => rfl) l i 1 (by omega)
      rw [hx] at hf0
      rw [Nat.zero_add]
      exact (own_cell hh ht hf0).1
set_option maxHeartbeats 2000000 in
set_option maxRecDepth 100000 in
theorem CloneV_any (w : World) (v : Value) (l : List Val) (hv : ValsAt w v l) (hl : l.length ≤ 1000000) :
    Calls Tryz.prog 43 #[v] w fun e w' => ∃ v', e = .returned v' ∧ w'.ownsRow w.heap.size 100 2 v' l.length (l.flatMap valC) ∧ Kept Nowhere w w' := by
  obtain ⟨i0, hi0, hz0, hz1, hz2⟩ := info_parts infoVal
  have q22 : ∀ (w : World) (a : Option Addr) (n c n' c' : Nat), (binOp .eql 22 (.slice a n c) (.slice none n' c')).run Tryz.prog w = .ok (.bool a.isNone) w := fun w a n c n' c' => Lib.run_eql_slice_nil w _ _ a n c n' c' Tryz.underlying22
  obtain ⟨a, cap, rfl, h1, h2, hat⟩ := hv
  rcases a with _ | ⟨b, off, sp⟩
  · have hl0 : l = [] := by
      cases l with
      | nil => rfl
      | cons x r => obtain ⟨_, g, o, hno, _⟩ := hat 0 x rfl; cases hno
    subst hl0
    clear hat
    go_enter Tryz.func43, Tryz.ntmps43
    go_wp2_with fail
    go_ret
    exact ⟨_, rfl, ⟨rfl, .inl ⟨rfl, rfl⟩⟩, Kept.refl _ _⟩
  · have hcell : Hid (∀ j u, (l.flatMap valC)[j]? = some u → w.cell? ((⟨b, off, sp⟩ : Addr).add j) = some u) := by
      cases l with
      | nil => intro j u hu; simp at hu
      | cons x r =>
        obtain ⟨_, g, o, hno, _⟩ := hat 0 x rfl
        simp only [Option.some.injEq, Addr.mk.injEq] at hno
        obtain ⟨rfl, rfl, rfl⟩ := hno
        exact vals_cells (fun i y hy => by
          obtain ⟨_, g', o', hno', _, c0, c1⟩ := hat i y hy
          simp only [Option.some.injEq, Addr.mk.injEq, and_true] at hno'
          obtain ⟨rfl, rfl⟩ := hno'
          exact ⟨c0, c1⟩)
    obtain ⟨news, hnews⟩ : ∃ news, l.flatMap valC = news := ⟨_, rfl⟩
    have hlen := flat_length (enc := valC) (k := 2) (fun _ => rfl) l
    have hone := valC_one l
    rw [hnews] at hcell hlen hone ⊢
    obtain ⟨n, hn⟩ : ∃ n, l.length = n := ⟨_, rfl⟩
    rw [hn] at hlen hl h2 ⊢
    have HX := Lib.hid (And.intro hlen hone)
    clear hat h1 hnews hn hlen hone
    go_enter Tryz.func43, Tryz.ntmps43
    go_wp2_with (at_builtin; refine wpList_append_own _ rfl _ _ 22 rfl w.heap.size 100 i0 _ 2 16 Tryz.underlying22 hi0 hz0 hz1 hz2 rfl (by omega) _ _ _ rfl (World.ownsRow_made w #[] 0 (Nat.le_refl _) (Nat.zero_le _) (by simp)) ⟨b, off, sp⟩ n cap news rfl ?qc1 ?qc2 ?qc3 ?qc4 ?qc5 ?qc6 ?_)
    case qc1 => exact HX.out.1
    case qc2 => intro j u hj; exact Lib.cell?_alloc_some _ (hcell.out j u hj)
    case qc3 => exact HX.out.2
    case qc4 => unfold maxLen; omega
    case qc5 => omega
    case qc6 => simp
    intro v' w1 hown hgrow hnil
    go_wp2_with fail
    go_ret
    refine ⟨v', rfl, by simpa using hown, ?_⟩
    exact Kept.of_below (((Below.refl _ w).alloc (Nat.le_refl _) _).grown hgrow (by simp) (by intro k hk; simp [Value.ownBlock] at hk; omega))
end Go.Proofs.YtlaahjcdbdipdaaGreatDoor
