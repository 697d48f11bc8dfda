/- The copies of a channel, of an app that has no client and sent nothing. -/
import Derived.Test.YtlaahjcdbdipdaaGreatDoorAppNew0
import Derived.Deep.RegionHeld3
namespace Go.Proofs.YtlaahjcdbdipdaaGreatDoor
open Go Go.RowKit Go.MapKept Go.ChangeMaps

/-- A channel's copy. -/
def ChanCopyPost (w : World) (own other : BA) (next : Int) (E : List (BA × BA)) (e : Ending) (w' : World) : Prop :=
  ∃ c m, e = .returned (ptr c) ∧ ChanIs w' c m own other next E ∧ w.heap.size ≤ c ∧ w.heap.size ≤ m ∧ Kept Nowhere w w'
set_option maxRecDepth 100000 in
set_option maxHeartbeats 1600000 in
theorem ChanCopy_any (w : World) (c m : Nat) (own other : BA) (next : Int) (E : List (BA × BA)) (h : ChanIs w c m own other next E) :
    Calls Tryz.prog 77 #[ptr c] w (ChanCopyPost w own other next E) := by
  obtain ⟨es, k, hb, ht⟩ := h.en.twin
  have hc : c < w.heap.size := h.lt.1
  have hm : m < w.heap.size := h.lt.2
  have hlo := h.lo
  have c0 : w.cell? ⟨c, 0, none⟩ = some (.string own) := by simp [World.cell?, h.cells]
  have c1 : w.cell? ⟨c, 1, none⟩ = some (.string other) := by simp [World.cell?, h.cells]
  have c2 : w.cell? ⟨c, 2, none⟩ = some (i64V next) := by simp [World.cell?, h.cells]
  have c3 : w.cell? ⟨c, 3, none⟩ = some (.map (some m)) := by simp [World.cell?, h.cells]
  have HI := Lib.hid (fun W (hW : W.heap[m]? = some (.map es k)) => AnyW.maps_Clone Tryz.cloneI m es k W hW)
  have HB := Lib.hid (And.intro hb (And.intro ht (And.intro hlo hm)))
  clear hb ht h hm hlo
  go_enter Tryz.func77, Tryz.ntmps77
  go_wp2_with fail
  refine (HI.out _ ((Below.heap_alloc _ _ _ HB.out.2.2.2).trans HB.out.1)).mono ?_
  rintro e w1 ⟨rfl, rfl⟩
  go_wp2_with fail
  go_ret
  exact ⟨w.heap.size, w.heap.size + 1, rfl, ⟨heap_alloc2_old w _ _, HB.out.2.1 _ _ (heap_alloc2_new w _ _), by have := HB.out.2.2; omega⟩, Nat.le_refl _, by omega, ((Kept.refl _ w).alloc _).alloc _⟩
set_option maxRecDepth 100000 in
theorem ClientCopy_nil (w : World) : Calls Tryz.prog 78 #[.pointer none] w fun e w' => e = .returned (.pointer none) ∧ w = w' := by
  go_enter Tryz.func78, Tryz.ntmps78
  go_wp2_with fail
  go_ret
  exact ⟨rfl, rfl⟩
set_option maxRecDepth 100000 in
theorem ClonePkt_nil (w : World) : Calls Tryz.prog 74 #[.slice none 0 0] w fun e w' => e = .returned (.slice none 0 0) ∧ w = w' := by
  have q22 : ∀ (w : World) (a : Option Addr) (n c n' c' : Nat), (binOp .eql 83 (.slice a n c) (.slice none n' c')).run Tryz.prog w = .ok (.bool a.isNone) w := fun w a n c n' c' => Lib.run_eql_slice_nil w _ _ a n c n' c' Tryz.underlying83
  go_enter Tryz.func74, Tryz.ntmps74
  go_wp2_with fail
  go_ret
  exact ⟨rfl, rfl⟩
theorem step_store_run {P : Program} {ops : Array Oper} {o : Oper} {a : Act} {w w' : World} {K : Act → World → Prop} {Q : Exit → Act → World → Prop} {R : Prop}
    (hg : o.guard = none) (t : TypeId) (x y : Operand) (hop : o.op = .store t x y) (u v : Value) (hx : a.eval x = u) (hy : a.eval y = v) (hr : (Instr.storeAt t u v).run P w = .ok () w') (hK : K (a.put o.dst undef) w') :
    if Region.wanted o (yielded ops a.tmps) = true then Oper.wp P o a w K Q else R := by
  have hw : Region.wanted o (yielded ops a.tmps) = true := by simp [Region.wanted, hg]
  rw [if_pos hw]
  unfold Oper.wp execOp
  simp only [hop, hx, hy, hr, Sem.run_bind, Result.andThen_ok]
  exact hK
/-- A block of n cells, that may be written. -/
def BlockN (x n : Nat) (t : TypeId) (W : World) : Prop := ∃ cs : Array Value, W.heap[x]? = some (.cells cs t (0, 0)) ∧ cs.size = n
theorem BlockN.cell {x n : Nat} {t : TypeId} {W : World} (h : BlockN x n t W) {j : Nat} (hj : j < n) : ∃ u, W.cell? ⟨x, j, none⟩ = some u := by
  obtain ⟨cs, hc, hs⟩ := h
  exact ⟨cs[j], by simp [World.cell?, hc, show j < cs.size by omega]⟩
theorem BlockN.fz {x n : Nat} {t : TypeId} {W : World} (h : BlockN x n t W) (j : Nat) : W.frozen? ⟨x, j, none⟩ = false := by
  obtain ⟨cs, hc, hs⟩ := h
  simp [World.frozen?, hc]
theorem BlockN.kept {x n : Nat} {t : TypeId} {W W' : World} (h : BlockN x n t W) (hk : Kept Nowhere W W') : BlockN x n t W' := by
  obtain ⟨cs, hc, hs⟩ := h
  exact ⟨cs, (hk.block x (Array.getElem?_eq_some_iff.1 hc).1 id).trans hc, hs⟩
theorem BlockN.set {x n : Nat} {t : TypeId} {W : World} (h : BlockN x n t W) (j : Nat) (v : Value) : BlockN x n t (W.setCell ⟨x, j, none⟩ v) := by
  obtain ⟨cs, hc, hs⟩ := h
  exact ⟨_, heap_setCell_same W x j cs t v hc, by simpa using hs⟩
theorem store_bank (W : World) (x : Nat) (t : TypeId) (h : BlockN x 7 t W) (k : Nat) : (Instr.storeAt 77 (.pointer (some ⟨x, 2, none⟩)) (ptr k)).run Tryz.prog W = .ok () (W.setCell ⟨x, 2, none⟩ (ptr k)) := by
  obtain ⟨u, hu⟩ := h.cell (j := 2) (by omega)
  have hf := h.fz 2
  simp [go_sem, hu, hf]
theorem store_chan (W : World) (x : Nat) (t : TypeId) (h : BlockN x 7 t W) (k : Nat) : (Instr.storeAt 95 (.pointer (some ⟨x, 3, none⟩)) (ptr k)).run Tryz.prog W = .ok () (W.setCell ⟨x, 3, none⟩ (ptr k)) := by
  obtain ⟨u, hu⟩ := h.cell (j := 3) (by omega)
  have hf := h.fz 3
  simp [go_sem, hu, hf]
theorem store_client (W : World) (x : Nat) (t : TypeId) (h : BlockN x 7 t W) : (Instr.storeAt 101 (.pointer (some ⟨x, 4, none⟩)) (.pointer none)).run Tryz.prog W = .ok () (W.setCell ⟨x, 4, none⟩ (.pointer none)) := by
  obtain ⟨u, hu⟩ := h.cell (j := 4) (by omega)
  have hf := h.fz 4
  simp [go_sem, hu, hf]
theorem store_vals (W : World) (x : Nat) (t : TypeId) (h : BlockN x 7 t W) (a : Option Addr) (n c : Nat) : (Instr.storeAt 22 (.pointer (some ⟨x, 5, none⟩)) (.slice a n c)).run Tryz.prog W = .ok () (W.setCell ⟨x, 5, none⟩ (.slice a n c)) := by
  obtain ⟨u, hu⟩ := h.cell (j := 5) (by omega)
  have hf := h.fz 5
  simp [go_sem, hu, hf]
theorem store_pkts (W : World) (x : Nat) (t : TypeId) (h : BlockN x 7 t W) (a : Option Addr) (n c : Nat) : (Instr.storeAt 83 (.pointer (some ⟨x, 6, none⟩)) (.slice a n c)).run Tryz.prog W = .ok () (W.setCell ⟨x, 6, none⟩ (.slice a n c)) := by
  obtain ⟨u, hu⟩ := h.cell (j := 6) (by omega)
  have hf := h.fz 6
  simp [go_sem, hu, hf]
theorem own_slice {w : World} {base e size n : Nat} {v : Value} {xs : List Value} (h : w.ownsRow base e size v n xs) : ∃ p n c, v = .slice p n c := by
  rcases h.2 with ⟨rfl, _⟩ | ⟨g, cap, cur, rfl, _⟩
  · exact ⟨_, _, _, rfl⟩
  · exact ⟨_, _, _, rfl⟩
/-- An app's copy: the same, in blocks of its own. -/
def AppCopyPost (w : World) (own other : BA) (b : BS) (next : Int) (E : List (BA × BA)) (set : List Val) (e : Ending) (w' : World) : Prop :=
  ∃ p, e = .returned (ptr p) ∧ AppAt (fun k => w.heap.size ≤ k) w' p own other (.pointer none) (.slice none 0 0) b next E set ∧ w.heap.size ≤ p ∧ Kept Nowhere w w'
set_option maxRecDepth 100000 in
set_option maxHeartbeats 6400000 in
theorem AppCopy_any (w : World) (p pb m1 m2 pc m : Nat) (tv : Value) (own other : BA) (b : BS) (next : Int) (E : List (BA × BA)) (set : List Val)
    (h : AppIs w p pb m1 m2 pc m tv own other (.pointer none) (.slice none 0 0) b next E set) (hset : set.length ≤ 1000000) :
    Calls Tryz.prog 34 #[ptr p] w (AppCopyPost w own other b next E set) := by
  have c0 := h.c0
  have c1 := h.c1
  have c2 := h.c2
  have c3 := h.c3
  have c4 := h.c4
  have c5 := h.c5
  have c6 := h.c6
  have hp := h.lt.1
  have H := Lib.hid h
  have HBk := Lib.hid (fun W (hW : Kept Nowhere w W) => Copy_any W pb m1 m2 b (h.bank.still hW))
  have HCh := Lib.hid (fun W (hW : Kept Nowhere w W) => ChanCopy_any W pc m own other next E (h.chan.still hW))
  have HCl := Lib.hid ClientCopy_nil
  obtain ⟨vp, vn, vc, rfl⟩ : ∃ p n c, tv = .slice p n c := by
    obtain ⟨a, cap, rfl, _⟩ := h.vals
    exact ⟨_, _, _, rfl⟩
  clear h
  go_enter Tryz.func34, Tryz.ntmps34
  go_wp2_with fail
  have hX0 : BlockN w.heap.size 7 103 (w.alloc (.cells #[.string own, .string other, ptr pb, ptr pc, .pointer none, .slice vp vn vc, .slice none 0 0] 103)) := ⟨_, heap_alloc_new w _, rfl⟩
  have hK0 : Kept Nowhere w (w.alloc (.cells #[.string own, .string other, ptr pb, ptr pc, .pointer none, .slice vp vn vc, .slice none 0 0] 103)) := (Kept.refl _ _).alloc _
  have hS0 := heap_alloc_new w (.cells #[.string own, .string other, ptr pb, ptr pc, .pointer none, .slice vp vn vc, .slice none 0 0] 103)
  obtain ⟨x, hx⟩ : ∃ x, w.heap.size = x := ⟨_, rfl⟩
  rw [hx] at hX0 hS0 ⊢
  generalize w.alloc (.cells #[.string own, .string other, ptr pb, ptr pc, .pointer none, .slice vp vn vc, .slice none 0 0] 103) = W0 at hX0 hK0 hS0 ⊢
  have HX0 := Lib.hid (And.intro hX0 (And.intro hK0 (And.intro hS0 hx)))
  have HC := Lib.hid (show ∀ W, Kept (fun k => k = x) W0 W → W.cell? ⟨p, 2, none⟩ = some (ptr pb) ∧ W.cell? ⟨p, 3, none⟩ = some (ptr pc) ∧ W.cell? ⟨p, 4, none⟩ = some (.pointer none) from fun W hk => by
    have hpx : ¬ p = x := by omega
    have h0 := HX0.out.2.1.size
    exact ⟨(hk.cell (p := ⟨p, _, none⟩) (by show p < _; omega) hpx).trans ((hK0.cell (p := ⟨p, _, none⟩) hp id).trans c2), (hk.cell (p := ⟨p, _, none⟩) (by show p < _; omega) hpx).trans ((hK0.cell (p := ⟨p, _, none⟩) hp id).trans c3), (hk.cell (p := ⟨p, _, none⟩) (by show p < _; omega) hpx).trans ((hK0.cell (p := ⟨p, _, none⟩) hp id).trans c4)⟩)
  clear hX0 hK0 hS0 c0 c1 c2 c3 c4 c5 c6 hp hx
  go_region_held3 (fun W => W.cell? ⟨p, 2, none⟩ = some (ptr pb) ∧ W.cell? ⟨p, 3, none⟩ = some (ptr pc) ∧ W.cell? ⟨p, 4, none⟩ = some (.pointer none))
    (first
      | exact HC.out _ (Kept.refl _ _)
      | exact HC.out _ (Kept.refl _ _).drew
      | exact HC.out _ hq1.out.2
      | exact HC.out _ hq2.out.2
      | exact HC.out _ (hq2.out.2.setCell (p := ⟨x, 2, none⟩) (fun _ => rfl) _)
      | exact HC.out _ ((hq2.out.2.setCell (p := ⟨x, 2, none⟩) (fun _ => rfl) _).setCell (p := ⟨x, 3, none⟩) (fun _ => rfl) _)
      | exact HC.out _ (((hq2.out.2.setCell (p := ⟨x, 2, none⟩) (fun _ => rfl) _).setCell (p := ⟨x, 3, none⟩) (fun _ => rfl) _).setCell (p := ⟨x, 4, none⟩) (fun _ => rfl) _))
    (first
      | (go_at_call 71; refine (HBk.out _ HX0.out.2.1.drew).mono ?_; rintro e w1 ⟨qb, n1, n2, rfl, hbk1, lb1, lb2, lb3, hkF1⟩; have hq1 := Lib.hid (And.intro (show Kept Nowhere W0 w1 from (Kept.refl Nowhere W0).drew.trans hkF1) (show Kept (fun k => k = x) W0 w1 from ((Kept.refl Nowhere W0).drew.trans hkF1).weaken (fun _ _ h => h.elim))))
      | (go_at_call 77; refine (HCh.out w1 (HX0.out.2.1.trans hq1.out.1)).mono ?_; rintro e w2 ⟨qc, n3, rfl, hch2, lc1, lc2, hkF2⟩; have hq2 := Lib.hid (And.intro (show Kept Nowhere W0 w2 from hq1.out.1.trans hkF2) (show Kept (fun k => k = x) W0 w2 from (hq1.out.1.trans hkF2).weaken (fun _ _ h => h.elim))))
      | (go_at_call 78; refine (HCl.out w2).mono ?_; rintro e w3 ⟨rfl, rfl⟩; obtain ⟨u2, hu2⟩ := (HX0.out.1.kept hq2.out.1).cell (j := 2) (by omega); obtain ⟨u3, hu3⟩ := (HX0.out.1.kept hq2.out.1).cell (j := 3) (by omega); obtain ⟨u4, hu4⟩ := (HX0.out.1.kept hq2.out.1).cell (j := 4) (by omega); have hz2 := (HX0.out.1.kept hq2.out.1).fz 2; have hz3 := (HX0.out.1.kept hq2.out.1).fz 3; have hz4 := (HX0.out.1.kept hq2.out.1).fz 4))
  have hx2 : w2.heap[x]? = some (.cells #[.string own, .string other, ptr pb, ptr pc, .pointer none, .slice vp vn vc, .slice none 0 0] 103 (0, 0)) := (hq2.out.1.block x (Array.getElem?_eq_some_iff.1 HX0.out.2.2.1).1 id).trans HX0.out.2.2.1
  have g1 := heap_setCell_same w2 x 2 _ _ (.pointer (some ⟨qb, 0, none⟩)) hx2
  have g2 := heap_setCell_same _ x 3 _ _ (.pointer (some ⟨qc, 0, none⟩)) g1
  have g3 := heap_setCell_same _ x 4 _ _ (.pointer none) g2
  simp at g3
  have hxl : x < W0.heap.size := (Array.getElem?_eq_some_iff.1 HX0.out.2.2.1).1
  have hxz : w.heap.size = x := HX0.out.2.2.2
  have k3 : Kept (fun k => k = x) w2 (((w2.setCell ⟨x, 2, none⟩ (.pointer (some ⟨qb, 0, none⟩))).setCell ⟨x, 3, none⟩ (.pointer (some ⟨qc, 0, none⟩))).setCell ⟨x, 4, none⟩ (.pointer none)) :=
    (((Kept.refl (fun k => k = x) w2).setCell (p := ⟨x, 2, none⟩) (fun _ => rfl) _).setCell (p := ⟨x, 3, none⟩) (fun _ => rfl) _).setCell (p := ⟨x, 4, none⟩) (fun _ => rfl) _
  generalize ((w2.setCell ⟨x, 2, none⟩ (.pointer (some ⟨qb, 0, none⟩))).setCell ⟨x, 3, none⟩ (.pointer (some ⟨qc, 0, none⟩))).setCell ⟨x, 4, none⟩ (.pointer none) = W3 at g3 k3 ⊢
  have z1 : W0.heap.size ≤ w1.heap.size := hq1.out.1.size
  have lb : ¬ qb = x ∧ ¬ n1 = x ∧ ¬ n2 = x ∧ ¬ qc = x ∧ ¬ n3 = x := by
    have e0 : W0.drew.heap.size = W0.heap.size := rfl
    rw [e0] at lb1 lb2 lb3
    omega
  have hbk3 : Has W3 qb n1 n2 b := BankIs.kept (Has.still hbk1 hkF2) k3 lb.1 lb.2.1 lb.2.2.1
  have hch3 : ChanIs W3 qc n3 own other next E := hch2.kept k3 lb.2.2.2.1 lb.2.2.2.2
  have hn3 : n3 ≠ n1 ∧ n3 ≠ n2 := by
    have := (BankIs.lt hbk1).2
    omega
  have hb3 : w.heap.size ≤ x ∧ w.heap.size ≤ qb ∧ w.heap.size ≤ n1 ∧ w.heap.size ≤ n2 ∧ w.heap.size ≤ qc ∧ w.heap.size ≤ n3 := by
    have e0 : W0.drew.heap.size = W0.heap.size := rfl
    rw [e0] at lb1 lb2 lb3
    omega
  have k03 : Kept (fun k => k = x) W0 W3 := hq2.out.2.trans k3
  have HA := Lib.hid (And.intro hbk3 (And.intro hch3 (And.intro hn3 (And.intro hb3 (And.intro k03 g3)))))
  have hw3 : Kept Nowhere w W3 := HX0.out.2.1.andThen k03 (fun i hi e => by omega)
  have hv3 : ValsAt W3 (.slice vp vn vc) set := H.out.vals.still hw3
  have HV := Lib.hid (And.intro hv3 hw3)
  clear hx2 g1 g2 g3 hxl hxz k3 z1 lb hbk3 hch3 hn3 hb3 k03 hw3 hv3 hbk1 lb1 lb2 lb3 hkF1 hch2 lc1 lc2 hkF2 hu2 hu3 hu4 hz2 hz3 hz4 hq1 hq2
  have HC5 := Lib.hid (show ∀ W, Kept (fun k => k = x) W3 W → W.cell? ⟨p, 5, none⟩ = some (.slice vp vn vc) ∧ W.cell? ⟨p, 6, none⟩ = some (.slice none 0 0) from fun W hk => by
    have hp := H.out.lt.1
    have hpx : ¬ p = x := by have := HX0.out.2.2.2; omega
    have h0 := HV.out.2.size
    have e5 := H.out.c5
    have e6 := H.out.c6
    exact ⟨(hk.cell (p := ⟨p, _, none⟩) (by show p < _; omega) hpx).trans ((HV.out.2.cell (p := ⟨p, _, none⟩) hp id).trans e5), (hk.cell (p := ⟨p, _, none⟩) (by show p < _; omega) hpx).trans ((HV.out.2.cell (p := ⟨p, _, none⟩) hp id).trans e6)⟩)
  have HB3 : Hid (BlockN x 7 103 W3) := ⟨_, HA.out.2.2.2.2.2, rfl⟩
  have HCv := Lib.hid (fun W (h : Kept Nowhere W3 W) => CloneV_any W (.slice vp vn vc) set (HV.out.1.still h) hset)
  have HCp := Lib.hid ClonePkt_nil
  go_wp2_with fail
  go_region_held3 (fun W => W.cell? ⟨p, 5, none⟩ = some (.slice vp vn vc) ∧ W.cell? ⟨p, 6, none⟩ = some (.slice none 0 0))
    (first
      | exact HC5.out _ (Kept.refl _ _)
      | exact HC5.out _ (Kept.refl _ _).drew
      | exact HC5.out _ hq4.out.2
      | exact HC5.out _ (hq4.out.2.setCell (p := ⟨x, 5, none⟩) (fun _ => rfl) _)
      | exact HC5.out _ ((hq4.out.2.setCell (p := ⟨x, 5, none⟩) (fun _ => rfl) _).setCell (p := ⟨x, 6, none⟩) (fun _ => rfl) _))
    (first
      | (go_at_call 43; refine (HCv.out _ (Kept.refl Nowhere W3).drew).mono ?_; rintro e w4 ⟨v', rfl, hown4, hk4⟩; obtain ⟨up, un, uc, rfl⟩ := own_slice hown4; have hq4 := Lib.hid (And.intro (show Kept Nowhere W3 w4 from (Kept.refl Nowhere W3).drew.trans hk4) (show Kept (fun k => k = x) W3 w4 from ((Kept.refl Nowhere W3).drew.trans hk4).weaken (fun _ _ h => h.elim))))
      | (go_at_call 74; refine (HCp.out w4).mono ?_; rintro e w5 ⟨rfl, rfl⟩; obtain ⟨u2, hu2⟩ := (HB3.out.kept hq4.out.1).cell (j := 5) (by omega); obtain ⟨u3, hu3⟩ := (HB3.out.kept hq4.out.1).cell (j := 6) (by omega); have hz2 := (HB3.out.kept hq4.out.1).fz 5; have hz3 := (HB3.out.kept hq4.out.1).fz 6))
  have hx4 := (hq4.out.1.block x (Array.getElem?_eq_some_iff.1 HA.out.2.2.2.2.2).1 id).trans HA.out.2.2.2.2.2
  have g1 := heap_setCell_same w4 x 5 _ _ (.slice up un uc) hx4
  have g2 := heap_setCell_same _ x 6 _ _ (.slice none 0 0) g1
  simp at g2
  have k5 : Kept (fun k => k = x) w4 ((w4.setCell ⟨x, 5, none⟩ (.slice up un uc)).setCell ⟨x, 6, none⟩ (.slice none 0 0)) :=
    ((Kept.refl (fun k => k = x) w4).setCell (p := ⟨x, 5, none⟩) (fun _ => rfl) _).setCell (p := ⟨x, 6, none⟩) (fun _ => rfl) _
  generalize (w4.setCell ⟨x, 5, none⟩ (.slice up un uc)).setCell ⟨x, 6, none⟩ (.slice none 0 0) = W5 at g2 k5 ⊢
  have hfit : ∀ y ∈ set, y.Fit := fun y hy => by
    obtain ⟨i, hi, rfl⟩ := List.getElem_of_mem hy
    obtain ⟨_, _, _, _, _, hat⟩ := HV.out.1
    exact (hat i _ (List.getElem?_eq_getElem hi)).1
  obtain ⟨hbk3, hch3, hn3, hb3, k03, g3⟩ := HA.out
  have hx0 := HX0.out.2.2.2
  have hxl : x < W3.heap.size := (Array.getElem?_eq_some_iff.1 g3).1
  have hk4' : Kept Nowhere w W5 := HV.out.2.andThen (hq4.out.2.trans k5) (fun i hi e => by omega)
  have e0 : W3.drew.heap.size = W3.heap.size := rfl
  have hv5 : ValsAt W5 (.slice up un uc) set := by
    have h4 := ownsRow_kept hown4 k5 (fun k hk e => by rw [e0] at hk; omega)
    exact vals_of_own h4 hfit (by unfold maxLen; omega)
  have HF : Hid (AppCopyPost w own other b next E set (.returned (ptr x)) W5) := by
    have lq := BankIs.lt hbk3
    have lc := hch3.lt
    refine ⟨x, rfl, ⟨qb, n1, n2, qc, n3, _, ⟨g2, BankIs.kept hbk3 (hq4.out.2.trans k5) ?_ ?_ ?_, hch3.kept (hq4.out.2.trans k5) ?_ ?_, hv5, H.out.good, hn3.1, hn3.2, fun g hg => Nat.lt_of_lt_of_le (own_row hown4 hg).2 k5.size⟩, by omega, by omega, by omega, by omega, by omega, by omega, fun g hg => by have := (own_row hown4 hg).1; rw [e0] at this; omega⟩, by omega, hk4'⟩
    · intro e; have := hbk3.cells; rw [e, g3] at this; cases this
    · intro e; exact map_no_block hbk3.am (e ▸ g3)
    · intro e; exact map_no_block hbk3.su (e ▸ g3)
    · intro e; have := hch3.cells; rw [e, g3] at this; cases this
    · intro e; exact map_no_block hch3.en (e ▸ g3)
  clear hx4 g1 g2 k5 hfit hbk3 hch3 hn3 hb3 k03 g3 hx0 hxl hk4' e0 hv5 hown4 hk4 hu2 hu3 hz2 hz3
  go_wp2_with fail
  go_ret
  exact HF.out
end Go.Proofs.YtlaahjcdbdipdaaGreatDoor
