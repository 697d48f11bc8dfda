/- encode: a writing, whose panic is an error: the contracts of caught, the deferred closure, encode. -/
import Derived.Test.YtlaahjcdbdipdaaGreatDoorForms
namespace Go.Proofs.YtlaahjcdbdipdaaGreatDoor
open Go Go.RowKit Go.MapKept Go.ChangeMaps

set_option maxRecDepth 100000 in
theorem caught_wrong (w : World) : Calls Tryz.prog 238 #[wrongV] w fun e w' => e = .returned (.tuple #[]) ∧ Kept Nowhere w w' := by
  have hta : ∀ w, (Instr.typeAssert wrongV 20 390 true).run Tryz.prog w = .ok (.tuple #[.agg #[], .bool true]) w := fun _ => by kernel_rfl
  go_enter Tryz.func238, Tryz.ntmps238
  go_wp2_with fail
  first | go_end0 | refine bodyPost_ret (results_none rfl _ _ _) rfl ?_
  exact ⟨rfl, (Kept.refl _ _).alloc _⟩
set_option maxRecDepth 100000 in
theorem encode1_panicking (p q : Nat) (x y : Value) (older : List PanicEntry) (w : World) (hpq : p ≠ q) (hx : w.cell? ⟨p, 0, none⟩ = some x) (hy : w.cell? ⟨q, 0, none⟩ = some y) (hfx : w.frozen? ⟨p, 0, none⟩ = false) (hfy : w.frozen? ⟨q, 0, none⟩ = false) :
    CallsD Tryz.prog 237 #[ptr p, ptr q] (.panicking ({ v := wrongV, recovered := false } :: older)) w fun e u' w' =>
      e = .returned (.tuple #[]) ∧ u' = .panicking ({ v := wrongV, recovered := true } :: older) ∧ w'.cell? ⟨p, 0, none⟩ = some (.slice none 0 0) ∧ w'.cell? ⟨q, 0, none⟩ = some (i64V 61) ∧ Kept (fun k => k = p ∨ k = q) w w' := by
  have HC := Lib.hid (caught_wrong w)
  refine callsD_of_wpS Tryz.func237 rfl fun c₀ cs hu => ?_
  apply wpS_seq
  apply wpS_region
  simp [wpOpsS, go_sem, recoverD, hu, Tryz.ntmps237, Exit.thenS]
  refine wpS_of_wp ?_
  change Code.wp _ _ _ { tmps := #[ptr p, ptr q, wrongV, wrongV, undef, undef, undef, undef], defers := [] } _
  go_wp2_with fail
  refine HC.out.mono ?_
  rintro e w1 ⟨rfl, hk1⟩
  have hp : p < w.heap.size := World.block_lt_of_cell? w _ hx
  have hq : q < w.heap.size := World.block_lt_of_cell? w _ hy
  have hx1 := (hk1.cell (p := ⟨p, 0, none⟩) hp id).trans hx
  have hy1 := (hk1.cell (p := ⟨q, 0, none⟩) hq id).trans hy
  have hfx1 := (hk1.frozen (p := ⟨p, 0, none⟩) hp id).trans hfx
  have hfy1 := (hk1.frozen (p := ⟨q, 0, none⟩) hq id).trans hfy
  have HX := Lib.hid (And.intro hk1 (And.intro hx1 hy1))
  clear hk1 hx hy hfx hfy
  go_wp2_with fail
  have h1 : (w1.setCell ⟨p, 0, none⟩ (.slice none 0 0)).cell? ⟨q, 0, none⟩ = some y := by
    rw [World.cell?_setCell_other _ _ _ _ (by simp [hpq])]; exact HX.out.2.2
  refine ⟨rfl, _, rfl, _, results_none rfl _ _ _, rfl, rfl, ?_, World.cell?_setCell_same _ _ _ h1, ?_⟩
  · rw [World.cell?_setCell_other _ _ _ _ (by first | (simp [Ne.symm hpq]; done) | (simp [hpq]; done))]
    exact World.cell?_setCell_same _ _ _ HX.out.2.1
  · exact ((HX.out.1.weaken (fun _ _ h => h.elim)).setCell (p := ⟨p, 0, none⟩) (fun _ => Or.inl rfl) _).setCell (p := ⟨q, 0, none⟩) (fun _ => Or.inr rfl) _
theorem encode1_idle (p q : Nat) (w : World) :
    CallsD Tryz.prog 237 #[ptr p, ptr q] .returning w fun e u' w' => e = .returned (.tuple #[]) ∧ u' = .returning ∧ w' = w := by
  refine callsD_of_wpS Tryz.func237 rfl fun c₀ cs hu => ?_
  apply wpS_seq
  apply wpS_region
  simp [wpOpsS, go_sem, recoverD, hu, Tryz.ntmps237, Exit.thenS]
  refine wpS_of_wp ?_
  change Code.wp _ _ _ { tmps := #[ptr p, ptr q, .nilIface, .nilIface, undef, undef, undef, undef], defers := [] } _
  go_wp2_with fail
  refine ⟨rfl, .returning, ?_, _, results_none rfl _ _ _, rfl, rfl, rfl⟩
  cases c₀
  simp_all
set_option maxRecDepth 100000 in
theorem NewWriterB (w : World) : Calls Tryz.prog 239 #[] w fun e w' => e = .returned (ptr w.heap.size) ∧ WrAt w.heap.size w.heap.size false [] w' ∧ Kept Nowhere w w' ∧ w'.heap.size = w.heap.size + 1 := NewWriter_any w
theorem two_set {w : World} {p q : Nat} {x y : Value} {t1 t2 : TypeId} (h1 : w.heap[p]? = some (.cells #[x] t1 (0, 0))) (h2 : w.heap[q]? = some (.cells #[y] t2 (0, 0))) (u u' : Value) (hpq : p ≠ q) :
    ((w.setCell ⟨p, 0, none⟩ u).setCell ⟨q, 0, none⟩ u').heap[p]? = some (.cells #[u] t1 (0, 0)) ∧ ((w.setCell ⟨p, 0, none⟩ u).setCell ⟨q, 0, none⟩ u').heap[q]? = some (.cells #[u'] t2 (0, 0)) := by
  have a1 : (w.setCell ⟨p, 0, none⟩ u).heap[p]? = some (.cells #[u] t1 (0, 0)) := heap_setCell_same w p 0 _ t1 u h1
  have a2 : (w.setCell ⟨p, 0, none⟩ u).heap[q]? = some (.cells #[y] t2 (0, 0)) := (heap_setCell_other w _ q u (Ne.symm hpq)).trans h2
  exact ⟨(heap_setCell_other _ _ p u' hpq).trans a1, heap_setCell_same _ q 0 _ t2 u' a2⟩
theorem own_twoset {w : World} {p q base e size n : Nat} {v : Value} {xs : List Value} {u u' : Value} (h : w.ownsRow base e size v n xs) (hp : p < base) (hq : q < base) : ((w.setCell ⟨p, 0, none⟩ u).setCell ⟨q, 0, none⟩ u').ownsRow base e size v n xs := by
  refine ownsRow_kept h (S := fun k => k = p ∨ k = q) (((Kept.refl _ w).setCell (p := ⟨p, 0, none⟩) (fun _ => Or.inl rfl) _).setCell (p := ⟨q, 0, none⟩) (fun _ => Or.inr rfl) _) (fun k hk h => ?_)
  rcases h with rfl | rfl <;> omega
/-- What a writing makes. -/
def EncPost (w : World) (r : Option (List UInt8)) (e : Ending) (w' : World) : Prop :=
  match r with
  | some l => ∃ v, e = .returned (.tuple #[v, i64V 0]) ∧ w'.ownsRow w.heap.size 5 1 v l.length (Lib.byteCells l) ∧ Kept Nowhere w w'
  | none => e = .returned (.tuple #[.slice none 0 0, i64V 61]) ∧ Kept Nowhere w w'
/-- What is asked of a writing, for a writer in whatever world behind. -/
def Writes (w : World) (g : Nat) (cap : Array Value) (r : Option (List UInt8)) : Prop :=
  ∀ (W : World) (b : Nat), Kept Nowhere w W → w.heap.size ≤ b → WrAt b b false [] W → b ≤ W.heap.size → Calls Tryz.prog g (#[ptr b] ++ cap) W fun e W' =>
    match r with
    | some l => e = .returned (.tuple #[]) ∧ WrAt b b false l W' ∧ WF b b W W'
    | none => e = wrongP ∧ Below b W W'
theorem Kept.then_below {w w1 w2 : World} {b : Nat} (k : Kept Nowhere w w1) (h : Below b w1 w2) (hb : w.heap.size ≤ b) : Kept Nowhere w w2 :=
  ⟨h.os.trans k.os, h.tape.trans k.tape, h.output.trans k.output, Nat.le_trans k.size h.size, fun i hi hs => (h.block i (Nat.lt_of_lt_of_le hi hb)).trans (k.block i hi hs)⟩
set_option maxRecDepth 100000 in
set_option maxHeartbeats 1600000 in
theorem encode_ok (w : World) (g : Nat) (cap : Array Value) (l : List UInt8) (eg : ∀ args w, (callFunc g args).run Tryz.prog w = .ok (.enter g args) w) (hw : Writes w g cap (some l)) (hl : l.length ≤ 1000000) :
    Calls Tryz.prog 151 #[.func (.func g) #[] cap] w (EncPost w (some l)) := by
  have hmf : ∀ (fn : Fn) (first cap : Array Value) (w : World), (Instr.makeFunc fn first cap).run Tryz.prog w = .ok (.func fn first cap) w := fun _ _ _ _ => rfl
  have HW := Lib.hid hw
  clear hw
  go_enter_defers Tryz.func151, Tryz.ntmps151
  go_wp2_with fail
  refine (NewWriterB _).mono ?_
  rintro e w1 ⟨rfl, ha1, hk1, hz1⟩
  have z0 : ((w.alloc (.cells #[.slice none 0 0] 168)).alloc (.cells #[.int .i64 0] 38)).heap.size = w.heap.size + 1 + 1 := by simp
  rw [z0] at ha1 hz1
  have k0 : Kept Nowhere w w1 := (((Kept.refl Nowhere w).alloc _).alloc _).trans hk1
  have x1 : w1.heap[w.heap.size]? = some (.cells #[.slice none 0 0] 168 (0, 0)) := (hk1.block _ (by rw [z0]; omega) id).trans (heap_alloc2_old w _ _)
  have y1 : w1.heap[w.heap.size + 1]? = some (.cells #[.int .i64 0] 38 (0, 0)) := (hk1.block _ (by rw [z0]; omega) id).trans (heap_alloc2_new w _ _)
  have H1 := Lib.hid (And.intro ha1 (And.intro k0 (And.intro x1 (And.intro y1 hz1))))
  clear ha1 hk1 hz1 z0 k0 x1 y1
  go_wp2_with fail
  refine (HW.out w1 (w.heap.size + 1 + 1) H1.out.2.1 (by omega) H1.out.1 (by have := H1.out.2.2.2.2; omega)).mono ?_
  rintro e w2 ⟨rfl, ha2, hf2⟩
  have H2 := Lib.hid (And.intro ha2 (And.intro (H1.out.2.1.then_below hf2.below (by omega)) (And.intro ((hf2.below.block _ (by omega)).trans H1.out.2.2.1) ((hf2.below.block _ (by omega)).trans H1.out.2.2.2.1))))
  clear ha2 hf2
  go_wp2_with fail
  refine (WBytes_any _ _ l w2 H2.out.1 hl).mono ?_
  rintro e w3 ⟨v, rfl, hown, hk3⟩
  obtain ⟨vp, vn, vc, rfl⟩ : ∃ p n c, v = .slice p n c := by
    rcases hown.2 with ⟨rfl, _⟩ | ⟨g, cap, cur, rfl, _⟩
    · exact ⟨_, _, _, rfl⟩
    · exact ⟨_, _, _, rfl⟩
  have s2 : w.heap.size + 1 < w2.heap.size := (Array.getElem?_eq_some_iff.1 H2.out.2.2.2).1
  have x3 := (hk3.block _ (by omega) id).trans H2.out.2.2.1
  have y3 := (hk3.block _ s2 id).trans H2.out.2.2.2
  have H3 := Lib.hid (And.intro (ownsRow_lower hown (show w.heap.size + 2 ≤ w2.heap.size by omega)) (And.intro (H2.out.2.1.trans hk3) (And.intro x3 y3)))
  have cx : w3.cell? ⟨w.heap.size, 0, none⟩ = some (.slice none 0 0) := by simp [World.cell?, x3]
  have cy : w3.cell? ⟨w.heap.size + 1, 0, none⟩ = some (.int .i64 0) := by simp [World.cell?, y3]
  have fx : w3.frozen? ⟨w.heap.size, 0, none⟩ = false := by simp [World.frozen?, x3]
  have fy : w3.frozen? ⟨w.heap.size + 1, 0, none⟩ = false := by simp [World.frozen?, y3]
  clear hown hk3 s2 x3 y3
  go_wp2_with fail
  have G4 := two_set H3.out.2.2.1 H3.out.2.2.2 (.slice vp vn vc) (.int .i64 0) (by omega)
  have K4 : Kept Nowhere w ((w3.setCell ⟨w.heap.size, 0, none⟩ (.slice vp vn vc)).setCell ⟨w.heap.size + 1, 0, none⟩ (.int .i64 0)) :=
    (H3.out.2.1.setCell (p := ⟨w.heap.size, 0, none⟩) (fun h => absurd h (Nat.lt_irrefl _)) _).setCell (p := ⟨w.heap.size + 1, 0, none⟩) (fun h => absurd h (by show ¬ w.heap.size + 1 < w.heap.size; omega)) _
  have O4 := own_twoset H3.out.1 (p := w.heap.size) (q := w.heap.size + 1) (u := .slice vp vn vc) (u' := .int .i64 0) (by omega) (show w.heap.size + 1 < w.heap.size + 2 by omega)
  generalize (w3.setCell ⟨w.heap.size, 0, none⟩ (.slice vp vn vc)).setCell ⟨w.heap.size + 1, 0, none⟩ (.int .i64 0) = w4 at G4 K4 O4
  have H4 := Lib.hid (And.intro O4 (And.intro K4 G4))
  clear cx cy fx fy O4 K4 G4
  refine (must_yes w4).mono ?_
  rintro e w5 ⟨rfl, rfl⟩
  have x4 := H4.out.2.2.1
  have y4 := H4.out.2.2.2
  have cx : w4.cell? ⟨w.heap.size, 0, none⟩ = some (.slice vp vn vc) := by simp [World.cell?, x4]
  have cy : w4.cell? ⟨w.heap.size + 1, 0, none⟩ = some (.int .i64 0) := by simp [World.cell?, y4]
  have fx : w4.frozen? ⟨w.heap.size, 0, none⟩ = false := by simp [World.frozen?, x4]
  have fy : w4.frozen? ⟨w.heap.size + 1, 0, none⟩ = false := by simp [World.frozen?, y4]
  clear x4 y4
  go_wp2_with fail
  have G5 := two_set H4.out.2.2.1 H4.out.2.2.2 (.slice vp vn vc) (.int .i64 0) (by omega)
  have K5 : Kept Nowhere w ((w4.setCell ⟨w.heap.size, 0, none⟩ (.slice vp vn vc)).setCell ⟨w.heap.size + 1, 0, none⟩ (.int .i64 0)) :=
    (H4.out.2.1.setCell (p := ⟨w.heap.size, 0, none⟩) (fun h => absurd h (Nat.lt_irrefl _)) _).setCell (p := ⟨w.heap.size + 1, 0, none⟩) (fun h => absurd h (by show ¬ w.heap.size + 1 < w.heap.size; omega)) _
  have O5 := own_twoset H4.out.1 (p := w.heap.size) (q := w.heap.size + 1) (u := .slice vp vn vc) (u' := .int .i64 0) (by omega) (show w.heap.size + 1 < w.heap.size + 2 by omega)
  generalize (w4.setCell ⟨w.heap.size, 0, none⟩ (.slice vp vn vc)).setCell ⟨w.heap.size + 1, 0, none⟩ (.int .i64 0) = w6 at G5 K5 O5
  refine leaves_cons (f := 237) (args := #[ptr w.heap.size, ptr (w.heap.size + 1)]) (by simp) (by simp [go_sem]) ?_
  refine (encode1_idle _ _ _).mono ?_
  rintro e u' w'' ⟨rfl, rfl, rfl⟩
  have cx : w''.cell? ⟨w.heap.size, 0, none⟩ = some (.slice vp vn vc) := by simp [World.cell?, G5.1]
  have cy : w''.cell? ⟨w.heap.size + 1, 0, none⟩ = some (.int .i64 0) := by simp [World.cell?, G5.2]
  simp [Leaves, settle, results, Tryz.results151, go_sem, cx, cy]
  exact ⟨_, rfl, ownsRow_lower O5 (show w.heap.size ≤ w.heap.size + 2 by omega), K5⟩
set_option maxRecDepth 100000 in
set_option maxHeartbeats 1600000 in
theorem encode_no (w : World) (g : Nat) (cap : Array Value) (eg : ∀ args w, (callFunc g args).run Tryz.prog w = .ok (.enter g args) w) (hw : Writes w g cap none) :
    Calls Tryz.prog 151 #[.func (.func g) #[] cap] w (EncPost w none) := by
  have hmf : ∀ (fn : Fn) (first cap : Array Value) (w : World), (Instr.makeFunc fn first cap).run Tryz.prog w = .ok (.func fn first cap) w := fun _ _ _ _ => rfl
  have HW := Lib.hid hw
  clear hw
  go_enter_defers Tryz.func151, Tryz.ntmps151
  go_wp2_with fail
  refine (NewWriterB _).mono ?_
  rintro e w1 ⟨rfl, ha1, hk1, hz1⟩
  have z0 : ((w.alloc (.cells #[.slice none 0 0] 168)).alloc (.cells #[.int .i64 0] 38)).heap.size = w.heap.size + 1 + 1 := by simp
  rw [z0] at ha1 hz1
  have k0 : Kept Nowhere w w1 := (((Kept.refl Nowhere w).alloc _).alloc _).trans hk1
  have x1 : w1.heap[w.heap.size]? = some (.cells #[.slice none 0 0] 168 (0, 0)) := (hk1.block _ (by rw [z0]; omega) id).trans (heap_alloc2_old w _ _)
  have y1 : w1.heap[w.heap.size + 1]? = some (.cells #[.int .i64 0] 38 (0, 0)) := (hk1.block _ (by rw [z0]; omega) id).trans (heap_alloc2_new w _ _)
  have H1 := Lib.hid (And.intro ha1 (And.intro k0 (And.intro x1 (And.intro y1 hz1))))
  clear ha1 hk1 hz1 z0 k0 x1 y1
  go_wp2_with fail
  refine (HW.out w1 (w.heap.size + 1 + 1) H1.out.2.1 (by omega) H1.out.1 (by have := H1.out.2.2.2.2; omega)).mono ?_
  rintro e w2 ⟨rfl, hb2⟩
  have k2 := H1.out.2.1.then_below hb2 (by omega)
  have x2 := (hb2.block _ (show w.heap.size < w.heap.size + 1 + 1 by omega)).trans H1.out.2.2.1
  have y2 := (hb2.block _ (show w.heap.size + 1 < w.heap.size + 1 + 1 by omega)).trans H1.out.2.2.2.1
  go_wp2_with fail
  refine leaves_cons (f := 237) (args := #[ptr w.heap.size, ptr (w.heap.size + 1)]) (by simp) (by simp [go_sem]) ?_
  refine (encode1_panicking w.heap.size (w.heap.size + 1) (.slice none 0 0) (.int .i64 0) [] w2 (by omega) (by simp [World.cell?, x2]) (by simp [World.cell?, y2]) (by simp [World.frozen?, x2]) (by simp [World.frozen?, y2])).mono ?_
  rintro e u' w3 ⟨rfl, rfl, c1, c2, k3⟩
  simp [Leaves, settle, results, Tryz.results151, go_sem, c1, c2]
  exact ⟨rfl, k2.andThen k3 (fun i hi h => by omega)⟩
end Go.Proofs.YtlaahjcdbdipdaaGreatDoor
