/- The bank's Copy. -/
import Derived.Test.YtlaahjcdbdipdaaGreatDoorRun
import Derived.Test.YtlaahjcdbdipdaaGreatDoorShelf
import Derived.Deep.RegionHeld3
namespace Go.Proofs.YtlaahjcdbdipdaaGreatDoor
open Go Go.RowKit Go.MapKept Go.ChangeMaps

/-- A map's twin: the same entries in a new block. -/
theorem MapIs.twin {κ ν : Type} {w : World} {kenc : κ → Value} {venc : ν → Value} {b : Nat} {L : List (κ × ν)} (h : MapIs w kenc venc b L) :
    ∃ es clock, w.heap[b]? = some (.map es clock) ∧ ∀ (W : World) (b' : Nat), W.heap[b']? = some (.map es clock) → MapIs W kenc venc b' L := by
  obtain ⟨es, clock, hb, hr⟩ := h
  exact ⟨es, clock, hb, fun W b' hW => ⟨es, clock, hW, hr⟩⟩
def CopyPost (w : World) (b : BS) (e : Ending) (w' : World) : Prop :=
  ∃ p m1 m2, e = .returned (ptr p) ∧ Has w' p m1 m2 b ∧ w.heap.size ≤ p ∧ w.heap.size ≤ m1 ∧ w.heap.size ≤ m2 ∧ Kept Nowhere w w'
set_option maxRecDepth 100000 in
set_option maxHeartbeats 6400000 in
theorem Copy_any (w : World) (p m1 m2 : Nat) (b : BS) (h : Has w p m1 m2 b) : Calls Tryz.prog 71 #[ptr p] w (CopyPost w b) := by
  obtain ⟨es1, k1, hb1, ht1⟩ := h.am.twin
  obtain ⟨es2, k2, hb2, ht2⟩ := h.su.twin
  have hc0 := h.c0
  have hc1 := h.c1
  have hm2 := h.lt.2.2
  have hp := h.lt.1
  have hlo : 8 ≤ w.heap.size := Nat.le_trans h.lo.1 (Nat.le_of_lt h.lt.2.1)
  have HA := Lib.hid (show Calls Tryz.prog 138 #[.map (some m1)] w.drew (fun e w' => e = .returned (.map (some w.heap.size)) ∧ w' = w.drew.alloc (.map es1 k1)) from AnyW.maps_Clone Tryz.cloneA m1 es1 k1 w.drew hb1)
  have HS := Lib.hid (show Calls Tryz.prog 139 #[.map (some m2)] (w.drew.alloc (.map es1 k1)) (fun e w' => e = .returned (.map (some (w.drew.alloc (.map es1 k1)).heap.size)) ∧ w' = (w.drew.alloc (.map es1 k1)).alloc (.map es2 k2)) from
    AnyW.maps_Clone Tryz.cloneS m2 es2 k2 _ ((Below.heap_alloc w.drew _ _ hm2).trans hb2))
  have HC := Lib.hid (show ∀ W, Kept Nowhere w W → W.cell? ⟨p, 0, none⟩ = some (.map (some m1)) ∧ W.cell? ⟨p, 1, none⟩ = some (.map (some m2)) from fun W hk =>
    ⟨(hk.cell (p := ⟨p, 0, none⟩) hp id).trans hc0, (hk.cell (p := ⟨p, 1, none⟩) hp id).trans hc1⟩)
  have HK1 := Lib.hid (show Kept Nowhere w (w.drew.alloc (.map es1 k1)) from ((Kept.refl Nowhere w).drew).alloc _)
  have HK2 := Lib.hid (show Kept Nowhere w ((w.drew.alloc (.map es1 k1)).alloc (.map es2 k2)) from ((((Kept.refl Nowhere w).drew).alloc _).alloc _))
  have HF := Lib.hid (show CopyPost w b (.returned (ptr (w.heap.size + 1 + 1))) ((((w.alloc (.map es1 k1)).alloc (.map es2 k2)).alloc (.cells #[.map (some w.heap.size), .map (some (w.heap.size + 1))] 152)).drew) from by
    have z1 : (w.alloc (.map es1 k1)).heap.size = w.heap.size + 1 := by simp
    have z2 : ((w.alloc (.map es1 k1)).alloc (.map es2 k2)).heap.size = w.heap.size + 1 + 1 := by simp
    have g1 := heap_alloc_new w (.map es1 k1)
    have g2 := heap_alloc_new (w.alloc (.map es1 k1)) (.map es2 k2)
    have g3 := heap_alloc_new ((w.alloc (.map es1 k1)).alloc (.map es2 k2)) (.cells #[.map (some w.heap.size), .map (some (w.heap.size + 1))] 152)
    rw [z1] at g2
    rw [z2] at g3
    refine ⟨_, w.heap.size, w.heap.size + 1, rfl, ⟨g3, ht1 _ _ ?_, ht2 _ _ ?_, by omega, by omega, by omega⟩, by omega, Nat.le_refl _, by omega, ((((Kept.refl Nowhere w).alloc _).alloc _).alloc _).drew⟩
    · exact (Below.heap_alloc _ _ _ (by rw [z2]; omega)).trans ((Below.heap_alloc _ _ _ (by rw [z1]; omega)).trans g1)
    · exact (Below.heap_alloc _ _ _ (by rw [z2]; omega)).trans g2)
  clear h hb1 hb2 ht1 ht2 hm2 hp hlo
  go_enter Tryz.func71, Tryz.ntmps71
  go_wp2_with fail
  go_region_held3 (fun W => W.cell? ⟨p, 0, none⟩ = some (.map (some m1)) ∧ W.cell? ⟨p, 1, none⟩ = some (.map (some m2)))
    (first
      | exact HC.out _ (Kept.refl Nowhere w).drew
      | exact HC.out _ HK1.out
      | exact HC.out _ HK2.out
      | exact HC.out _ (HK2.out.alloc _))
    (first
      | (go_at_call 138; refine HA.out.mono ?_; rintro e w' ⟨rfl, rfl⟩)
      | (go_at_call 139; refine HS.out.mono ?_; rintro e w' ⟨rfl, rfl⟩))
  go_wp2_with fail
  go_ret
  exact HF.out
end Go.Proofs.YtlaahjcdbdipdaaGreatDoor
