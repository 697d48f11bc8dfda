/- The walk of BankNil. -/
import Derived.Test.YtjghnfnlhmhmkaaDoorAlive
namespace Go.Proofs.YtjghnfnlhmhmkaaDoor
open Go Go.RowKit Go.MapKept Go.ChangeMaps

/-- A boxed act's cells, in a world behind. -/
structure ActAt (W : World) (p : Nat) (a : ActS) : Prop where
  c0 : W.cell? ⟨p, 0, none⟩ = some (.int .i64 a.kind)
  c1 : W.cell? ⟨p, 1, none⟩ = some (.string a.from_)
  c2 : W.cell? ⟨p, 2, none⟩ = some (.string a.to)
  c3 : W.cell? ⟨p, 3, none⟩ = some (.string a.denom)
  c4 : W.cell? ⟨p, 4, none⟩ = some (u64V a.n)
theorem act_new (w : World) (a : ActS) (t : Nat) : ActAt (w.alloc (.cells a.cells.toArray t)) w.heap.size a :=
  ⟨cell_of_alloc _ _ _ 0 _ rfl, cell_of_alloc _ _ _ 1 _ rfl, cell_of_alloc _ _ _ 2 _ rfl, cell_of_alloc _ _ _ 3 _ rfl, cell_of_alloc _ _ _ 4 _ rfl⟩
theorem ActAt.kept {S : Nat → Prop} {W W' : World} {p : Nat} {a : ActS} (h : ActAt W p a) (hk : Kept S W W') (hS : ¬ S p) : ActAt W' p a := by
  have hp : p < W.heap.size := World.block_lt_of_cell? W _ h.c0
  exact ⟨(hk.cell (p := ⟨p, _, none⟩) hp hS).trans h.c0, (hk.cell (p := ⟨p, _, none⟩) hp hS).trans h.c1, (hk.cell (p := ⟨p, _, none⟩) hp hS).trans h.c2, (hk.cell (p := ⟨p, _, none⟩) hp hS).trans h.c3, (hk.cell (p := ⟨p, _, none⟩) hp hS).trans h.c4⟩
set_option maxRecDepth 100000 in
set_option maxHeartbeats 1600000 in
theorem BankNil_walk (w : World) (a : ActS) (hL : Laid w) :
    Calls Tryd.prog 7 #[.agg a.cells.toArray] w fun e w' => e = .returned (.bool true) ∧ Kept Nowhere w w' := by
  have HA := Lib.hid (alive_any (w.alloc (.cells a.cells.toArray 28)) (hL.alloc _))
  have h0 := act_new w a 28
  have hk0 : Kept Nowhere w (w.alloc (.cells a.cells.toArray 28)) := (Kept.refl _ _).alloc _
  obtain ⟨k, fr, to, d, n⟩ := a
  have H0 := Lib.hid (And.intro h0 hk0)
  clear h0 hk0
  go_enter Tryd.func7, Tryd.ntmps7
  unfold ActS.cells at *
  go_wp2_with fail
  refine HA.out.mono ?_
  rintro e w1 ⟨rfl, hk1⟩
  have H1 := Lib.hid (And.intro (H0.out.1.kept hk1 id) (H0.out.2.trans hk1))
  clear hk1
  obtain ⟨_, c1, c2, c3, c4⟩ := H1.out.1
  go_wp2_with fail
  refine (Mint_nil w1 to d n).mono ?_
  rintro e w2 ⟨rfl, hk2⟩
  have H2 := Lib.hid (And.intro (H1.out.1.kept hk2 id) (H1.out.2.trans hk2))
  clear hk2 c1 c2 c3 c4
  obtain ⟨_, c1, c2, c3, c4⟩ := H2.out.1
  go_wp2_with fail
  refine (Burn_nil w2 fr d n).mono ?_
  rintro e w3 ⟨rfl, hk3⟩
  have H3 := Lib.hid (And.intro (H2.out.1.kept hk3 id) (H2.out.2.trans hk3))
  clear hk3 c1 c2 c3 c4
  obtain ⟨_, c1, c2, c3, c4⟩ := H3.out.1
  go_wp2_with fail
  refine (Move_nil w3 fr to d n).mono ?_
  rintro e w4 ⟨rfl, hk4⟩
  have H4 := Lib.hid (And.intro (H3.out.1.kept hk4 id) (H3.out.2.trans hk4))
  clear hk4 c1 c2 c3 c4
  obtain ⟨_, c1, c2, c3, c4⟩ := H4.out.1
  go_wp2_with fail
  refine (Balance_nil w4 to d).mono ?_
  rintro e w5 ⟨rfl, rfl⟩
  go_wp2_with fail
  refine (Supply_nil w4 d).mono ?_
  rintro e w5 ⟨rfl, rfl⟩
  go_wp2_with fail
  refine (Entries_nil w4).mono ?_
  rintro e w5 ⟨rfl, rfl⟩
  go_wp2_with fail
  refine (Copy_nil w4).mono ?_
  rintro e w5 ⟨rfl, rfl⟩
  go_wp2_with fail
  go_ret
  exact ⟨rfl, H4.out.2⟩
end Go.Proofs.YtjghnfnlhmhmkaaDoor
