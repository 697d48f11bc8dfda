/- Entries sorted by their keys, at the closure of (*nuncio/channel.Channel).Entries$1: the contract of slices.SortFunc. -/
import Derived.Test.YtlaahjcdbdipdaaGreatDoorSort
namespace Go.Proofs.YtlaahjcdbdipdaaGreatDoor
open Go Go.RowKit Go.MapKept Go.ChangeMaps Go.Sort
set_option maxRecDepth 100000 in
theorem closureC_any (x y : BA × BA) (W : World) : Calls Tryz.prog 100 #[.agg #[.string x.1, .string x.2], .agg #[.string y.1, .string y.2]] W fun e w' => e = .returned (.int .i64 (cmpS x.1 y.1)) ∧ ∃ q os', w' = grow (W.drewN q) os' := by
  have hcon := Lib.hid (fun W' => Compare_any x.1 y.1 W')
  generalize cmpS x.1 y.1 = r at hcon ⊢
  go_enter Tryz.func100, Tryz.ntmps100
  go_wp2_with (go_at_call 55; refine (hcon.out _).mono ?_; rintro e w' ⟨rfl, rfl⟩)
  go_ret
  exact ⟨rfl, 0, _, by rw [alloc_eq_grow, alloc_eq_grow, grow_grow]; rfl⟩
theorem SortFuncC_any (w : World) (base : Nat) (v : Value) (L : List (BA × BA)) (hL : L.length < 4611686018427387904) (h : w.ownsRow base 93 2 v L.length (L.flatMap encEnt)) :
    Calls Tryz.prog 53 #[v, .func (.func 100) #[] #[]] w fun e w' =>
      e = .returned (.tuple #[]) ∧ ∃ M, M.Perm L ∧ ByKeys M ∧ w'.ownsRow base 93 2 v L.length (M.flatMap encEnt) ∧ Kept (fun j => v.ownBlock = some j) w w' := by
  by_cases h0 : L.length = 0
  · rcases h.2 with ⟨rfl, _⟩ | ⟨g, cap, cur, rfl, hr⟩
    · rw [h0] at h
      have := AnyF.slices_SortFunc_none Tryz.sortEntry none 0 (.func (.func 100) #[] #[]) w
      refine this.mono fun e w' ⟨he, hw⟩ => ⟨he, L, List.Perm.refl _, fun i j hi => by omega, by subst hw; rw [h0]; exact h, by subst hw; exact Kept.refl _ _⟩
    · rw [h0] at h ⊢
      have := AnyF.slices_SortFunc_none Tryz.sortEntry (some ⟨g, 0, none⟩) cap (.func (.func 100) #[] #[]) w
      rw [h0] at hr
      refine this.mono fun e w' ⟨he, hw⟩ => ⟨he, L, List.Perm.refl _, fun i j hi => by omega, by subst hw; exact h, by subst hw; exact Kept.refl _ _⟩
  · obtain ⟨g, cap, cur, rfl, hbase, hlt, hh, h1, h2, h3, h4⟩ := own_some h (by omega)
    have hk : ∀ x : BA × BA, (encEnt x).length = 2 := fun _ => rfl
    have hH := holdsK_of_own (enc := encEnt) (L := L) hk (by omega) hh h4
    have eg : ∀ args w, (callFunc 100 args).run Tryz.prog w = .ok (.enter 100 args) w := enters_of Tryz.func100 (by kernel_rfl) rfl
    have hO : SWO (ltOf fun a b : BA × BA => cmpS a.1 b.1) := by
      have e : (ltOf fun a b : BA × BA => cmpS a.1 b.1) = fun x y => decide (x.1.toList < y.1.toList) := by funext x y; exact lt_of_cmp x y
      rw [e]; exact swo_bytes _
    have hcon := AnyQ.slices_SortFunc Tryz.sortEntry 2 isAggEnt sizeEnt encEnt hk (fun x v hv => by simp [encEnt] at hv; rcases hv with rfl | rfl <;> rfl) (fun x y => cmpS x.1 y.1) hO 100 #[] g 0 cap L.toArray w eg (fun _ _ _ _ x y => closureC_any x y _) hH hlt (by simpa using hL)
    refine hcon.mono fun e w' ⟨he, d', n, os, hp, hs, hw⟩ => ?_
    obtain ⟨M, rfl⟩ : ∃ M : List (BA × BA), d' = M.toArray := ⟨d'.toList, by simp⟩
    have hl : M.length = L.length := by simpa using hp.1
    have hperm : M.Perm L := by
      have := hp.2.2
      simp only [List.size_toArray, List.extract_toArray] at this
      rw [List.extract_eq_take_drop, List.extract_eq_take_drop] at this
      simp only [Nat.sub_zero, List.drop_zero] at this
      rwa [List.take_of_length_le (by omega), List.take_length] at this
    refine ⟨he, M, hperm, fun i j hi hj hij => ?_, hw ▸ own_sortedK hk (by omega) hl hbase hh h1 h2 h3, ?_⟩
    · have := hs i j (Nat.zero_le _) hij (by simp; omega)
      rw [lt_of_cmp, getElem!_pos _ j (by simpa using hj), getElem!_pos _ i (by simpa using hi)] at this
      simpa using this
    · rw [hw]
      exact (kept_sortedF _).weaken (fun k _ hk => by rw [hk]; rfl)
end Go.Proofs.YtlaahjcdbdipdaaGreatDoor
