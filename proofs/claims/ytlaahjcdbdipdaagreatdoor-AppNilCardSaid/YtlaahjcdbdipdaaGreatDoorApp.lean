/- An app in memory: the contracts of validators, app.New. -/
import Derived.Test.YtlaahjcdbdipdaaGreatDoorChan
import Derived.Test.YtlaahjcdbdipdaaGreatDoorCloneV
import Derived.Test.YtlaahjcdbdipdaaGreatDoorCopy
namespace Go.Proofs.YtlaahjcdbdipdaaGreatDoor
open Go Go.RowKit Go.MapKept Go.ChangeMaps

/-- Block p is an App; kv: its client, as a value; sv: what it sent, as a value. -/
structure AppIs (w : World) (p pb m1 m2 pc m : Nat) (tv : Value) (own other : BA) (kv sv : Value) (b : BS) (next : Int) (E : List (BA × BA)) (set : List Val) : Prop where
  cells : w.heap[p]? = some (.cells #[.string own, .string other, ptr pb, ptr pc, kv, tv, sv] 103 (0, 0))
  bank : Has w pb m1 m2 b
  chan : ChanIs w pc m own other next E
  vals : ValsAt w tv set
  good : Good b
  ne1 : m ≠ m1
  ne2 : m ≠ m2
  row : ∀ g, tv.ownBlock = some g → g < w.heap.size
theorem map_no_cell {κ ν : Type} {w : World} {kenc : κ → Value} {venc : ν → Value} {b : Nat} {L : List (κ × ν)} (h : MapIs w kenc venc b L) {o : Nat} {v : Value} (hc : w.cell? ⟨b, o, none⟩ = some v) : False := by
  obtain ⟨es, c, hb, _⟩ := h
  simp [World.cell?, hb] at hc
theorem map_no_block {κ ν : Type} {w : World} {kenc : κ → Value} {venc : ν → Value} {b : Nat} {L : List (κ × ν)} (h : MapIs w kenc venc b L) {cs : Array Value} {t : TypeId} {fr : Nat × Nat} (hc : w.heap[b]? = some (.cells cs t fr)) : False := by
  obtain ⟨es, c, hb, _⟩ := h
  rw [hb] at hc; cases hc
theorem ValsAt.kept {S : Nat → Prop} {w w' : World} {v : Value} {l : List Val} (h : ValsAt w v l) (hk : Kept S w w') (hS : ∀ g o u, S g → w.cell? ⟨g, o, none⟩ ≠ some u) : ValsAt w' v l := by
  obtain ⟨a, cap, h1, h2, h3, h4⟩ := h
  refine ⟨a, cap, h1, h2, h3, fun i x hx => ?_⟩
  obtain ⟨hf, g, o, ha, hg, c0, c1⟩ := h4 i x hx
  have hn : ¬ S g := fun hs => hS _ _ _ hs c0
  exact ⟨hf, g, o, ha, Nat.lt_of_lt_of_le hg hk.size, (hk.cell (p := ⟨g, _, none⟩) hg hn).trans c0, (hk.cell (p := ⟨g, _, none⟩) hg hn).trans c1⟩
section
variable {w w' : World} {p pb m1 m2 pc m : Nat} {tv : Value} {own other : BA} {kv sv : Value} {b : BS} {next : Int} {E : List (BA × BA)} {set : List Val}
theorem Has.still {w w' : World} {p m1 m2 : Nat} {b : BS} (h : Has w p m1 m2 b) (hk : Kept Nowhere w w') : Has w' p m1 m2 b := BankIs.kept h hk id id id
theorem AppIs.still (h : AppIs w p pb m1 m2 pc m tv own other kv sv b next E set) (hk : Kept Nowhere w w') : AppIs w' p pb m1 m2 pc m tv own other kv sv b next E set :=
  ⟨(hk.block p (Array.getElem?_eq_some_iff.1 h.cells).1 id).trans h.cells, h.bank.still hk, h.chan.still hk, h.vals.still hk, h.good, h.ne1, h.ne2, fun g hg => Nat.lt_of_lt_of_le (h.row g hg) hk.size⟩
theorem AppIs.lt (h : AppIs w p pb m1 m2 pc m tv own other kv sv b next E set) : p < w.heap.size ∧ pb < w.heap.size ∧ m1 < w.heap.size ∧ m2 < w.heap.size ∧ pc < w.heap.size ∧ m < w.heap.size :=
  ⟨(Array.getElem?_eq_some_iff.1 h.cells).1, (BankIs.lt h.bank).1, (BankIs.lt h.bank).2.1, (BankIs.lt h.bank).2.2, h.chan.lt.1, h.chan.lt.2⟩
theorem AppIs.c0 (h : AppIs w p pb m1 m2 pc m tv own other kv sv b next E set) : w.cell? ⟨p, 0, none⟩ = some (.string own) := by simp [World.cell?, h.cells]
theorem AppIs.c1 (h : AppIs w p pb m1 m2 pc m tv own other kv sv b next E set) : w.cell? ⟨p, 1, none⟩ = some (.string other) := by simp [World.cell?, h.cells]
theorem AppIs.c2 (h : AppIs w p pb m1 m2 pc m tv own other kv sv b next E set) : w.cell? ⟨p, 2, none⟩ = some (ptr pb) := by simp [World.cell?, h.cells]
theorem AppIs.c3 (h : AppIs w p pb m1 m2 pc m tv own other kv sv b next E set) : w.cell? ⟨p, 3, none⟩ = some (ptr pc) := by simp [World.cell?, h.cells]
theorem AppIs.c4 (h : AppIs w p pb m1 m2 pc m tv own other kv sv b next E set) : w.cell? ⟨p, 4, none⟩ = some kv := by simp [World.cell?, h.cells]
theorem AppIs.c5 (h : AppIs w p pb m1 m2 pc m tv own other kv sv b next E set) : w.cell? ⟨p, 5, none⟩ = some tv := by simp [World.cell?, h.cells]
theorem AppIs.c6 (h : AppIs w p pb m1 m2 pc m tv own other kv sv b next E set) : w.cell? ⟨p, 6, none⟩ = some sv := by simp [World.cell?, h.cells]
theorem AppIs.fz (h : AppIs w p pb m1 m2 pc m tv own other kv sv b next E set) (j : Nat) : w.frozen? ⟨p, j, none⟩ = false := by simp [World.frozen?, h.cells]
/-- The bank's maps may turn. -/
theorem AppIs.banked {b' : BS} (h : AppIs w p pb m1 m2 pc m tv own other kv sv b next E set) (hb : Has w' pb m1 m2 b') (hg : Good b') (hk : Kept (Maps2 m1 m2) w w') : AppIs w' p pb m1 m2 pc m tv own other kv sv b' next E set := by
  have hn : ∀ {k : Nat} {cs : Array Value} {t : TypeId} {fr : Nat × Nat}, w.heap[k]? = some (.cells cs t fr) → ¬ Maps2 m1 m2 k := fun hc hM => by
    rcases hM with rfl | rfl
    · exact map_no_block h.bank.am hc
    · exact map_no_block h.bank.su hc
  refine ⟨(hk.block p h.lt.1 (hn h.cells)).trans h.cells, hb, h.chan.kept hk (hn h.chan.cells) (fun hM => ?_), h.vals.kept hk (fun g o u hM hc => ?_), hg, h.ne1, h.ne2, fun g hg => Nat.lt_of_lt_of_le (h.row g hg) hk.size⟩
  · rcases hM with e | e
    · exact h.ne1 e
    · exact h.ne2 e
  · rcases hM with rfl | rfl
    · exact map_no_cell h.bank.am hc
    · exact map_no_cell h.bank.su hc
end
/-- An app somewhere, all of its blocks among F. -/
def AppAt (F : Nat → Prop) (w : World) (p : Nat) (own other : BA) (kv sv : Value) (b : BS) (next : Int) (E : List (BA × BA)) (set : List Val) : Prop :=
  ∃ pb m1 m2 pc m tv, AppIs w p pb m1 m2 pc m tv own other kv sv b next E set ∧ F p ∧ F pb ∧ F m1 ∧ F m2 ∧ F pc ∧ F m ∧ ∀ g, tv.ownBlock = some g → F g
theorem ValsAt.row {S : Nat → Prop} {w w' : World} {v : Value} {l : List Val} (h : ValsAt w v l) (hk : Kept S w w') (hS : ∀ g, v.ownBlock = some g → ¬ S g) : ValsAt w' v l := by
  obtain ⟨a, cap, rfl, h2, h3, h4⟩ := h
  refine ⟨a, cap, rfl, h2, h3, fun i x hx => ?_⟩
  obtain ⟨hf, g, o, ha, hg, c0, c1⟩ := h4 i x hx
  have hn : ¬ S g := hS g (by rw [ha]; rfl)
  exact ⟨hf, g, o, ha, Nat.lt_of_lt_of_le hg hk.size, (hk.cell (p := ⟨g, _, none⟩) hg hn).trans c0, (hk.cell (p := ⟨g, _, none⟩) hg hn).trans c1⟩
theorem AppAt.kept {F S : Nat → Prop} {w w' : World} {p : Nat} {own other : BA} {kv sv : Value} {b : BS} {next : Int} {E : List (BA × BA)} {set : List Val} (h : AppAt F w p own other kv sv b next E set) (hk : Kept S w w') (hd : ∀ k, k < w.heap.size → F k → ¬ S k) : AppAt F w' p own other kv sv b next E set := by
  obtain ⟨pb, m1, m2, pc, m, tv, hi, f1, f2, f3, f4, f5, f6, f7⟩ := h
  obtain ⟨l1, l2, l3, l4, l5, l6⟩ := hi.lt
  refine ⟨pb, m1, m2, pc, m, tv, ⟨(hk.block p l1 (hd _ l1 f1)).trans hi.cells, BankIs.kept hi.bank hk (hd _ l2 f2) (hd _ l3 f3) (hd _ l4 f4), hi.chan.kept hk (hd _ l5 f5) (hd _ l6 f6), hi.vals.row hk (fun g hg => hd g (hi.row g hg) (f7 g hg)), hi.good, hi.ne1, hi.ne2, fun g hg => Nat.lt_of_lt_of_le (hi.row g hg) hk.size⟩, f1, f2, f3, f4, f5, f6, f7⟩
theorem AppAt.still {F : Nat → Prop} {w w' : World} {p : Nat} {own other : BA} {kv sv : Value} {b : BS} {next : Int} {E : List (BA × BA)} {set : List Val} (h : AppAt F w p own other kv sv b next E set) (hk : Kept Nowhere w w') : AppAt F w' p own other kv sv b next E set := by
  obtain ⟨pb, m1, m2, pc, m, tv, hi, hF⟩ := h
  exact ⟨pb, m1, m2, pc, m, tv, hi.still hk, hF⟩
theorem AppAt.mono {F G : Nat → Prop} {w : World} {p : Nat} {own other : BA} {kv sv : Value} {b : BS} {next : Int} {E : List (BA × BA)} {set : List Val} (h : AppAt F w p own other kv sv b next E set) (hFG : ∀ k, k < w.heap.size → F k → G k) : AppAt G w p own other kv sv b next E set := by
  obtain ⟨pb, m1, m2, pc, m, tv, hi, f1, f2, f3, f4, f5, f6, f7⟩ := h
  obtain ⟨l1, l2, l3, l4, l5, l6⟩ := hi.lt
  exact ⟨pb, m1, m2, pc, m, tv, hi, hFG _ l1 f1, hFG _ l2 f2, hFG _ l3 f3, hFG _ l4 f4, hFG _ l5 f5, hFG _ l6 f6, fun g hg => hFG _ (hi.row g hg) (f7 g hg)⟩
/-- The one validator of the laws. -/
def theSet : List Val := [(keyN 5, 2)]
set_option maxRecDepth 100000 in
theorem validators_any (w : World) : Calls Tryz.prog 39 #[] w fun e w' => ∃ v, e = .returned v ∧ ValsAt w' v theSet ∧ Kept Nowhere w w' := by
  have HK := Lib.hid (RefKey_any w 5 (by omega) (by omega))
  have hx : keyN 5 ≤ 18446744073709551615 := by decide +kernel
  have HX := Lib.hid hx
  have HS : Hid (theSet = [(keyN 5, 2)]) := Lib.hid (show theSet = _ from rfl)
  clear hx
  generalize keyN 5 = k5 at HK HX HS
  generalize theSet = ts at HS ⊢
  go_enter Tryz.func39, Tryz.ntmps39
  go_wp2_with fail
  refine HK.out.mono ?_
  rintro e w' ⟨rfl, rfl⟩
  go_wp2_with fail
  go_ret
  refine ⟨_, rfl, ?_, (Kept.refl _ _).alloc _⟩
  rw [HS.out]
  refine ⟨_, _, rfl, by show 1 ≤ maxLen; unfold maxLen; omega, by simp, fun i x hx => ?_⟩
  rcases i with _ | i
  · simp at hx
    subst hx
    refine ⟨⟨HX.out, by simp, by simp⟩, w.heap.size, 0, rfl, by simp, cell_of_alloc _ _ _ 0 _ rfl, cell_of_alloc _ _ _ 1 _ rfl⟩
  · simp at hx
end Go.Proofs.YtlaahjcdbdipdaaGreatDoor
