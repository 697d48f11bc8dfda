/- Entries, sorted by their keys: the contracts of cmp.Compare at strings, of the closure, of slices.SortFunc. -/
import Derived.Test.YtlaahjcdbdipdaaGreatDoorText
import Derived.Test.YtlaahjcdbdipdaaGreatDoorRows0
import Derived.Test.YtlaahjcdbdipdaaGreatDoorShelfSort
namespace Go.Proofs.YtlaahjcdbdipdaaGreatDoor
open Go Go.RowKit Go.MapKept Go.ChangeMaps Go.Sort

/-- What cmp.Compare answers. -/
def cmpS (x y : BA) : Int := if x.toList < y.toList then -1 else if x = y then 0 else 1
set_option maxRecDepth 100000 in
theorem Compare_any (x y : BA) (w : World) : Calls Tryz.prog 55 #[.string x, .string y] w fun e w' => e = .returned (.int .i64 (cmpS x y)) ∧ w = w' := by
  have e1 := bytesLess_eq x.toList y.toList
  have e2 := bytes_beq_iff x y
  have HC : cmpS x y = (if x.toList < y.toList then -1 else if x = y then 0 else 1) := rfl
  by_cases h1 : x.toList < y.toList
  · have h3 : Op.bytesLess x.toList y.toList = true := by rw [e1]; simpa using h1
    rw [if_pos h1] at HC
    replace HC := Lib.hid HC
    clear e1 e2 h1
    go_enter Tryz.func55, Tryz.ntmps55
    go_wp2
    go_ret
    exact ⟨by rw [HC.out]; rfl, rfl⟩
  · have h3 : Op.bytesLess x.toList y.toList = false := by rw [e1]; simpa using h1
    rw [if_neg h1] at HC
    by_cases h2 : x = y
    · have h4 : (x.toList == y.toList) = true := by rw [e2]; simpa using h2
      rw [if_pos h2] at HC
      replace HC := Lib.hid HC
      clear e1 e2 h1 h2
      go_enter Tryz.func55, Tryz.ntmps55
      go_wp2
      go_ret
      exact ⟨by rw [HC.out]; rfl, rfl⟩
    · have h4 : (x.toList == y.toList) = false := by rw [e2]; simpa using h2
      rw [if_neg h2] at HC
      replace HC := Lib.hid HC
      clear e1 e2 h1 h2
      go_enter Tryz.func55, Tryz.ntmps55
      go_wp2
      go_ret
      exact ⟨by rw [HC.out]; rfl, rfl⟩
/-- An entry's two cells. -/
def encEnt (x : BA × BA) : List Value := [.string x.1, .string x.2]
instance : Inhabited BA := ⟨⟨#[]⟩⟩
set_option maxRecDepth 100000 in
theorem closure_any (x y : BA × BA) (W : World) : Calls Tryz.prog 76 #[.agg #[.string x.1, .string x.2], .agg #[.string y.1, .string y.2]] W fun e w' => e = .returned (.int .i64 (cmpS x.1 y.1)) ∧ ∃ q os', w' = grow (W.drewN q) os' := by
  have hcon := Lib.hid (fun W' => Compare_any x.1 y.1 W')
  generalize cmpS x.1 y.1 = r at hcon ⊢
  go_enter Tryz.func76, Tryz.ntmps76
  go_wp2_with (go_at_call 55; refine (hcon.out _).mono ?_; rintro e w' ⟨rfl, rfl⟩)
  go_ret
  exact ⟨rfl, 0, _, by rw [alloc_eq_grow, alloc_eq_grow, grow_grow]; rfl⟩
theorem lt_of_cmp (x y : BA × BA) : ltOf (fun a b : BA × BA => cmpS a.1 b.1) x y = decide (x.1.toList < y.1.toList) := by
  show decide (cmpS x.1 y.1 < 0) = _
  unfold cmpS
  by_cases h : x.1.toList < y.1.toList
  · simp [h]
  · rw [if_neg h]
    by_cases h2 : x.1 = y.1
    · simp [h2]
    · simp [h2, h]
theorem isAggEnt : ∀ w, (isAgg 93).run Tryz.prog w = .ok true w := fun w => by kernel_rfl
theorem sizeEnt : ∀ w, (Go.sizeOf 93).run Tryz.prog w = .ok 2 w := fun w => by kernel_rfl
/-- A list sorted by its keys. -/
def ByKeys (M : List (BA × BA)) : Prop := ∀ i j (hi : i < M.length) (hj : j < M.length), i < j → ¬ M[j].1.toList < M[i].1.toList
theorem SortFunc_any (w : World) (base : Nat) (v : Value) (L : List (BA × BA)) (hL : L.length < 4611686018427387904) (h : w.ownsRow base 93 2 v L.length (L.flatMap encEnt)) :
    Calls Tryz.prog 53 #[v, .func (.func 76) #[] #[]] w fun e w' =>
      e = .returned (.tuple #[]) ∧ ∃ M, M.Perm L ∧ ByKeys M ∧ w'.ownsRow base 93 2 v L.length (M.flatMap encEnt) ∧ Kept (fun j => v.ownBlock = some j) w w' := by
  by_cases h0 : L.length = 0
  · rcases h.2 with ⟨rfl, _⟩ | ⟨g, cap, cur, rfl, hr⟩
    · rw [h0] at h
      have := AnyF.slices_SortFunc_none Tryz.sortEntry none 0 (.func (.func 76) #[] #[]) w
      refine this.mono fun e w' ⟨he, hw⟩ => ⟨he, L, List.Perm.refl _, fun i j hi => by omega, by subst hw; rw [h0]; exact h, by subst hw; exact Kept.refl _ _⟩
    · rw [h0] at h ⊢
      have := AnyF.slices_SortFunc_none Tryz.sortEntry (some ⟨g, 0, none⟩) cap (.func (.func 76) #[] #[]) w
      rw [h0] at hr
      refine this.mono fun e w' ⟨he, hw⟩ => ⟨he, L, List.Perm.refl _, fun i j hi => by omega, by subst hw; exact h, by subst hw; exact Kept.refl _ _⟩
  · obtain ⟨g, cap, cur, rfl, hbase, hlt, hh, h1, h2, h3, h4⟩ := own_some h (by omega)
    have hk : ∀ x : BA × BA, (encEnt x).length = 2 := fun _ => rfl
    have hH := holdsK_of_own (enc := encEnt) (L := L) hk (by omega) hh h4
    have eg : ∀ args w, (callFunc 76 args).run Tryz.prog w = .ok (.enter 76 args) w := enters_of Tryz.func76 (by kernel_rfl) rfl
    have hO : SWO (ltOf fun a b : BA × BA => cmpS a.1 b.1) := by
      have e : (ltOf fun a b : BA × BA => cmpS a.1 b.1) = fun x y => decide (x.1.toList < y.1.toList) := by funext x y; exact lt_of_cmp x y
      rw [e]; exact swo_bytes _
    have hcon := AnyQ.slices_SortFunc Tryz.sortEntry 2 isAggEnt sizeEnt encEnt hk (fun x v hv => by simp [encEnt] at hv; rcases hv with rfl | rfl <;> rfl) (fun x y => cmpS x.1 y.1) hO 76 #[] g 0 cap L.toArray w eg (fun _ _ _ _ x y => closure_any x y _) hH hlt (by simpa using hL)
    refine hcon.mono fun e w' ⟨he, d', n, os, hp, hs, hw⟩ => ?_
    obtain ⟨M, rfl⟩ : ∃ M : List (BA × BA), d' = M.toArray := ⟨d'.toList, by simp⟩
    have hl : M.length = L.length := by simpa using hp.1
    have hperm : M.Perm L := by
      have := hp.2.2
      simp only [List.size_toArray, List.extract_toArray] at this
      rw [List.extract_eq_take_drop, List.extract_eq_take_drop] at this
      simp only [Nat.sub_zero, List.drop_zero] at this
      rwa [List.take_of_length_le (by omega), List.take_length] at this
    refine ⟨he, M, hperm, fun i j hi hj hij => ?_, hw ▸ own_sortedK hk (by omega) hl hbase hh h1 h2 h3, ?_⟩
    · have := hs i j (Nat.zero_le _) hij (by simp; omega)
      rw [lt_of_cmp, getElem!_pos _ j (by simpa using hj), getElem!_pos _ i (by simpa using hi)] at this
      simpa using this
    · rw [hw]
      exact (kept_sortedF _).weaken (fun k _ hk => by rw [hk]; rfl)
end Go.Proofs.YtlaahjcdbdipdaaGreatDoor
