/- A script of acts in memory; the bank's readings, in the words of its state. -/
import Derived.Test.YtjghnfnlhmhmkaaDoorPlain
import Derived.Test.YtjghnfnlhmhmkaaDoorNilWalk
namespace Go.Proofs.YtjghnfnlhmhmkaaDoor
open Go Go.RowKit Go.MapKept Go.ChangeMaps

/-- A slice of acts. -/
def ScriptAt (w : World) (v : Value) (acts : List ActS) : Prop :=
  ∃ a cap, v = .slice a acts.length cap ∧ acts.length ≤ maxLen ∧ ∀ i x, acts[i]? = some x → x.Fit ∧ ∃ g o, a = some ⟨g, o, none⟩ ∧ g < w.heap.size ∧ w.cell? ⟨g, o + i * 5, none⟩ = some (.int .i64 x.kind) ∧
    w.cell? ⟨g, o + i * 5 + 1, none⟩ = some (.string x.from_) ∧ w.cell? ⟨g, o + i * 5 + 2, none⟩ = some (.string x.to) ∧ w.cell? ⟨g, o + i * 5 + 3, none⟩ = some (.string x.denom) ∧ w.cell? ⟨g, o + i * 5 + 4, none⟩ = some (u64V x.n)
theorem add_none (g o n : Nat) : (⟨g, o, none⟩ : Addr).add n = ⟨g, o + n, none⟩ := by
  unfold Addr.add
  split
  · subst_vars; rfl
  · rfl
theorem Sup_any (w : World) (p m1 m2 : Nat) (b : BS) (d : BA) (h : Has w p m1 m2 b) {s : Nat} (hs : b.sup d = s) : Calls Tryd.prog 10 #[ptr p, .string d] w fun e w' => e = .returned (u64V s) ∧ w = w' :=
  hs ▸ Supply_any w p m1 m2 b.A b.S d h
theorem Bal_any (w : World) (p m1 m2 : Nat) (b : BS) (a d : BA) (h : Has w p m1 m2 b) {s : Nat} (hs : b.bal a d = s) : Calls Tryd.prog 13 #[ptr p, .string a, .string d] w fun e w' => e = .returned (u64V s) ∧ w = w' :=
  hs ▸ Balance_any w p m1 m2 b.A b.S a d h
/-- What Entries hands back, as it reads. -/
def EntsPost (w : World) (b : BS) (e : Ending) (w' : World) : Prop :=
  ∃ v M, e = .returned v ∧ (M.Perm (b.A.map entOf) ∧ ByKeys M) ∧ ReadsEnt w' v M ∧ (∀ k, v.ownBlock = some k → w.heap.size ≤ k) ∧ Kept Nowhere w w'
theorem Ents_any (w : World) (p m1 m2 : Nat) (b : BS) (h : Has w p m1 m2 b) (hg : Good b) (hL : Laid w) (hl : b.A.length ≤ 1000000) : Calls Tryd.prog 11 #[ptr p] w (EntsPost w b) :=
  (Entries_any w p m1 m2 b.A b.S h hL hl hg.fits).mono fun _ _ ⟨v, M, he, hp, hs, ho, hk⟩ => by
    have hlen := hp.length_eq
    rw [List.length_map] at hlen
    refine ⟨v, M, he, ⟨hp, hs⟩, reads_of_own ho (by omega), fun k hk' => ?_, hk⟩
    rcases ho.2 with ⟨rfl, _⟩ | ⟨g, cap, cur, rfl, hg', _⟩
    · cases hk'
    · cases hk'; exact hg'
theorem Has.drew {w : World} {p m1 m2 : Nat} {b : BS} (h : Has w p m1 m2 b) : Has w.drew p m1 m2 b := BankIs.drew h
theorem Has.alloc {w : World} {p m1 m2 : Nat} {b : BS} (h : Has w p m1 m2 b) (o : Obj) : Has (w.alloc o) p m1 m2 b := BankIs.alloc h o
theorem Has.still {w w' : World} {p m1 m2 : Nat} {b : BS} (h : Has w p m1 m2 b) (hk : Kept Nowhere w w') : Has w' p m1 m2 b := BankIs.kept h hk id id id
def NewPost (w : World) (e : Ending) (w' : World) : Prop :=
  ∃ p m1 m2, e = .returned (ptr p) ∧ Has w' p m1 m2 BS.none ∧ Kept Nowhere w w' ∧ w.heap.size ≤ m1 ∧ w.heap.size ≤ m2 ∧ w.heap.size ≤ p
theorem NewH_any (w : World) (hL : Laid w) : Calls Tryd.prog 8 #[] w (NewPost w) :=
  (New_any w hL.size).mono fun _ _ ⟨he, hb, hk, _⟩ => ⟨_, _, _, he, hb, hk, Nat.le_refl _, Nat.le_succ _, Nat.le_add_right _ _⟩
theorem SameTrue_any (w : World) (u v : Value) (L M : List (BA × BA)) (hu : ReadsEnt w u L) (hv : ReadsEnt w v M) (h : L = M) :
    Calls Tryd.prog 14 #[u, v] w fun e w' => e = .returned (.bool true) ∧ Kept Nowhere w w' := by
  have := Same_any w u v L M hu hv
  rw [decide_eq_true h] at this
  exact this
end Go.Proofs.YtjghnfnlhmhmkaaDoor
