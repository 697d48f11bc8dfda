/- tried: what is done to a copy; what can't be is an error: the contracts of must, need, the deferred closure, tried. -/
import Derived.Test.YtlaahjcdbdipdaaGreatDoorAppCopy
namespace Go.Proofs.YtlaahjcdbdipdaaGreatDoor
open Go Go.RowKit Go.MapKept Go.ChangeMaps

/-- What is thrown where something can't be. -/
abbrev refusedV (c : Int) : Value := .iface 216 (.agg #[i64V c])
abbrev refusedP (c : Int) : Ending := .panicked [{ v := refusedV c, recovered := false }]
set_option maxRecDepth 100000 in
theorem amust_yes (c : Int) (w : World) : Calls Tryz.prog 114 #[.bool true, i64V c] w fun e w' => e = .returned (.tuple #[]) ∧ w = w' := by
  go_enter Tryz.func114, Tryz.ntmps114
  go_wp2_with fail
  first | go_end0 | refine bodyPost_ret (results_none rfl _ _ _) rfl ?_
  exact ⟨rfl, rfl⟩
set_option maxRecDepth 100000 in
theorem amust_no (c : Int) (w : World) : Calls Tryz.prog 114 #[.bool false, i64V c] w fun e w' => e = refusedP c ∧ w = w' := by
  go_enter Tryz.func114, Tryz.ntmps114
  go_wp2_with fail
  exact ⟨rfl, rfl, rfl⟩
set_option maxRecDepth 100000 in
theorem need_yes (w : World) : Calls Tryz.prog 115 #[i64V 0] w fun e w' => e = .returned (.tuple #[]) ∧ w = w' := by
  go_enter Tryz.func115, Tryz.ntmps115
  go_wp2_with fail
  first | go_end0 | refine bodyPost_ret (results_none rfl _ _ _) rfl ?_
  exact ⟨rfl, rfl⟩
set_option maxRecDepth 100000 in
theorem need_no (c : Int) (hc : ¬ c = 0) (w : World) : Calls Tryz.prog 115 #[i64V c] w fun e w' => e = refusedP c ∧ w = w' := by
  have hb : (c != 0) = true := by simpa using hc
  clear hc
  go_enter Tryz.func115, Tryz.ntmps115
  go_wp2_with fail
  exact ⟨rfl, rfl, rfl⟩
theorem tried1_idle (p q : Nat) (w : World) :
    CallsD Tryz.prog 113 #[ptr p, ptr q] .returning w fun e u' w' => e = .returned (.tuple #[]) ∧ u' = .returning ∧ w' = w := by
  refine callsD_of_wpS Tryz.func113 rfl fun c₀ cs hu => ?_
  apply wpS_seq
  apply wpS_region
  simp [wpOpsS, go_sem, recoverD, hu, Tryz.ntmps113, Exit.thenS]
  refine wpS_of_wp ?_
  change Code.wp _ _ _ { tmps := #[ptr p, ptr q, .nilIface, undef, undef, .nilIface, undef, undef, undef, undef, undef, undef, undef, undef, undef, undef, undef, undef], defers := [] } _
  go_wp2_with fail
  refine ⟨rfl, .returning, ?_, _, results_none rfl _ _ _, rfl, rfl, rfl⟩
  cases c₀
  simp_all
set_option maxRecDepth 100000 in
set_option maxHeartbeats 1600000 in
theorem tried1_panicking (p q : Nat) (c : Int) (x y : Value) (older : List PanicEntry) (w : World) (hpq : p ≠ q) (hx : w.cell? ⟨p, 0, none⟩ = some x) (hy : w.cell? ⟨q, 0, none⟩ = some y) (hfx : w.frozen? ⟨p, 0, none⟩ = false) (hfy : w.frozen? ⟨q, 0, none⟩ = false) :
    CallsD Tryz.prog 113 #[ptr p, ptr q] (.panicking ({ v := refusedV c, recovered := false } :: older)) w fun e u' w' =>
      e = .returned (.tuple #[]) ∧ u' = .panicking ({ v := refusedV c, recovered := true } :: older) ∧ w'.cell? ⟨p, 0, none⟩ = some (.pointer none) ∧ w'.cell? ⟨q, 0, none⟩ = some (i64V c) ∧ Kept (fun k => k = p ∨ k = q) w w' := by
  have hta : ∀ w, (Instr.typeAssert (refusedV c) 20 216 true).run Tryz.prog w = .ok (.tuple #[.agg #[i64V c], .bool true]) w := fun _ => by kernel_rfl
  refine callsD_of_wpS Tryz.func113 rfl fun c₀ cs hu => ?_
  apply wpS_seq
  apply wpS_region
  simp [wpOpsS, go_sem, recoverD, hu, Tryz.ntmps113, Exit.thenS]
  refine wpS_of_wp ?_
  change Code.wp _ _ _ { tmps := #[ptr p, ptr q, refusedV c, undef, undef, refusedV c, undef, undef, undef, undef, undef, undef, undef, undef, undef, undef, undef, undef], defers := [] } _
  go_wp2_with fail
  have hp : p < w.heap.size := World.block_lt_of_cell? w _ hx
  have hq : q < w.heap.size := World.block_lt_of_cell? w _ hy
  have k0 : Kept Nowhere w (w.alloc (.cells #[.int .i64 c] 216)) := (Kept.refl _ _).alloc _
  have c0 := cell_of_alloc w #[.int .i64 c] 216 0 _ rfl
  have hx0 := (k0.cell (p := ⟨p, 0, none⟩) hp id).trans hx
  have hy0 := (k0.cell (p := ⟨q, 0, none⟩) hq id).trans hy
  have hfx0 := (k0.frozen (p := ⟨p, 0, none⟩) hp id).trans hfx
  have hfy0 := (k0.frozen (p := ⟨q, 0, none⟩) hq id).trans hfy
  obtain ⟨n, hn⟩ : ∃ n, w.heap.size = n := ⟨_, rfl⟩
  rw [hn] at c0 ⊢
  have hpn : ¬ p = n := by omega
  have hqn : ¬ q = n := by omega
  generalize w.alloc (.cells #[.int .i64 c] 216) = W0 at k0 c0 hx0 hy0 hfx0 hfy0 ⊢
  have HC := Lib.hid (show ∀ W, Kept (fun k => k = p ∨ k = q) W0 W → W.cell? ⟨n, 0, none⟩ = some (.int .i64 c) from fun W hk =>
    (hk.cell (p := ⟨n, 0, none⟩) (World.block_lt_of_cell? W0 _ c0) (fun h => by rcases h with h | h; exact hpn h.symm; exact hqn h.symm)).trans c0)
  have HK := Lib.hid (And.intro k0 (And.intro hx0 hy0))
  have HPQ := Lib.hid hpq
  clear k0 hx hy hfx hfy hp hq hn
  go_region_held3 (fun W => W.cell? ⟨n, 0, none⟩ = some (.int .i64 c))
    (first
      | exact HC.out _ (Kept.refl _ _)
      | exact HC.out _ (Kept.refl _ _).drew
      | exact HC.out _ ((Kept.refl (fun k => k = p ∨ k = q) W0).drew.setCell (p := ⟨p, 0, none⟩) (fun _ => Or.inl rfl) _)
      | exact HC.out _ (((Kept.refl (fun k => k = p ∨ k = q) W0).drew.setCell (p := ⟨p, 0, none⟩) (fun _ => Or.inl rfl) _).setCell (p := ⟨q, 0, none⟩) (fun _ => Or.inr rfl) _))
    (fail)
  have h1 : (W0.setCell ⟨p, 0, none⟩ (.pointer none)).cell? ⟨q, 0, none⟩ = some y := by
    rw [World.cell?_setCell_other _ _ _ _ (by simp [hpq])]; exact HK.out.2.2
  refine ⟨rfl, _, rfl, _, results_none rfl _ _ _, rfl, rfl, ?_, World.cell?_setCell_same _ _ _ h1, ?_⟩
  · show ((W0.setCell ⟨p, 0, none⟩ (.pointer none)).setCell ⟨q, 0, none⟩ (.int .i64 c)).cell? ⟨p, 0, none⟩ = _
    rw [World.cell?_setCell_other _ _ _ _ (by first | (simp [Ne.symm hpq]; done) | (simp [hpq]; done))]
    exact World.cell?_setCell_same _ _ _ HK.out.2.1
  · exact (((HK.out.1.weaken (fun _ _ h => h.elim)).setCell (p := ⟨p, 0, none⟩) (fun _ => Or.inl rfl) _).setCell (p := ⟨q, 0, none⟩) (fun _ => Or.inr rfl) _).drew
/-- What is done to a copy: it is left in a state that R tells, or a number is thrown that C tells. -/
def Does (w : World) (g : Nat) (cap : Array Value) (own other : BA) (b : BS) (next : Int) (E : List (BA × BA)) (set : List Val) (R : BS → List Val → Prop) (C : Int → Prop) : Prop :=
  ∀ (W : World) (B px : Nat), Kept Nowhere w W → w.heap.size ≤ B → B ≤ W.heap.size → AppAt (fun k => B ≤ k) W px own other (.pointer none) (.slice none 0 0) b next E set →
    Calls Tryz.prog g (#[ptr px] ++ cap) W fun e W' => Kept (fun k => B ≤ k) W W' ∧
      ((e = .returned (.tuple #[]) ∧ ∃ b' set', R b' set' ∧ AppAt (fun k => B ≤ k) W' px own other (.pointer none) (.slice none 0 0) b' next E set') ∨ ∃ c, e = refusedP c ∧ C c)
/-- What tried hands back. -/
def TriedPost (w : World) (own other : BA) (next : Int) (E : List (BA × BA)) (R : BS → List Val → Prop) (C : Int → Prop) (e : Ending) (w' : World) : Prop :=
  Kept Nowhere w w' ∧ ((∃ px b' set', e = .returned (.tuple #[ptr px, i64V 0]) ∧ R b' set' ∧ AppAt (fun k => w.heap.size ≤ k) w' px own other (.pointer none) (.slice none 0 0) b' next E set') ∨ ∃ c, e = .returned (.tuple #[.pointer none, i64V c]) ∧ C c)
set_option maxRecDepth 100000 in
set_option maxHeartbeats 3200000 in
theorem tried_any (w : World) (p pb m1 m2 pc m : Nat) (tv : Value) (own other : BA) (b : BS) (next : Int) (E : List (BA × BA)) (set : List Val) (g : Nat) (cap : Array Value) (R : BS → List Val → Prop) (C : Int → Prop)
    (h : AppIs w p pb m1 m2 pc m tv own other (.pointer none) (.slice none 0 0) b next E set) (hset : set.length ≤ 1000000)
    (eg : ∀ args w, (callFunc g args).run Tryz.prog w = .ok (.enter g args) w) (hdo : Does w g cap own other b next E set R C) :
    Calls Tryz.prog 66 #[ptr p, .func (.func g) #[] cap] w (TriedPost w own other next E R C) := by
  have hmf : ∀ (fn : Fn) (first cap : Array Value) (w : World), (Instr.makeFunc fn first cap).run Tryz.prog w = .ok (.func fn first cap) w := fun _ _ _ _ => rfl
  have HD := Lib.hid hdo
  have HCp := Lib.hid (fun W (hW : Kept Nowhere w W) => AppCopy_any W p pb m1 m2 pc m tv own other b next E set (h.still hW) hset)
  clear hdo h
  go_enter_defers Tryz.func66, Tryz.ntmps66
  go_wp2_with fail
  have k0 : Kept Nowhere w ((w.alloc (.cells #[.pointer none] 37)).alloc (.cells #[.int .i64 0] 38)) := ((Kept.refl Nowhere w).alloc _).alloc _
  have z0 : ((w.alloc (.cells #[.pointer none] 37)).alloc (.cells #[.int .i64 0] 38)).heap.size = w.heap.size + 2 := by simp
  have x0 := heap_alloc2_old w (.cells #[.pointer none] 37) (.cells #[.int .i64 0] 38)
  have y0 := heap_alloc2_new w (.cells #[.pointer none] 37) (.cells #[.int .i64 0] 38)
  generalize (w.alloc (.cells #[.pointer none] 37)).alloc (.cells #[.int .i64 0] 38) = W0 at k0 z0 x0 y0 ⊢
  have H0 := Lib.hid (And.intro k0 (And.intro z0 (And.intro x0 y0)))
  clear k0 z0 x0 y0
  refine (HCp.out W0 H0.out.1).mono ?_
  rintro e w1 ⟨px, rfl, hat, hpx, hk1⟩
  have H1 := Lib.hid (And.intro hat (And.intro hpx (And.intro (H0.out.1.trans hk1) (And.intro ((hk1.block _ (by have := H0.out.2.1; omega) id).trans H0.out.2.2.1) ((hk1.block _ (by have := H0.out.2.1; omega) id).trans H0.out.2.2.2)))))
  have hz1 := hk1.size
  have hz0 := H0.out.2.1
  clear hat hpx hk1
  go_wp2_with fail
  refine (HD.out w1 W0.heap.size px H1.out.2.2.1 (by omega) hz1 H1.out.1).mono ?_
  rintro e w2 ⟨hk2, ⟨rfl, b', set', hR, hat2⟩ | ⟨c, rfl, hc⟩⟩
  · have x2 := (hk2.block w.heap.size (by omega) (by show ¬ W0.heap.size ≤ w.heap.size; omega)).trans H1.out.2.2.2.1
    have y2 := (hk2.block (w.heap.size + 1) (by omega) (by show ¬ W0.heap.size ≤ w.heap.size + 1; omega)).trans H1.out.2.2.2.2
    have cx : w2.cell? ⟨w.heap.size, 0, none⟩ = some (.pointer none) := by simp [World.cell?, x2]
    have cy : w2.cell? ⟨w.heap.size + 1, 0, none⟩ = some (.int .i64 0) := by simp [World.cell?, y2]
    have fx : w2.frozen? ⟨w.heap.size, 0, none⟩ = false := by simp [World.frozen?, x2]
    have fy : w2.frozen? ⟨w.heap.size + 1, 0, none⟩ = false := by simp [World.frozen?, y2]
    have H2 := Lib.hid (And.intro hk2 (And.intro hR (And.intro hat2 (And.intro x2 y2))))
    clear hk2 hR hat2 x2 y2
    go_wp2_with fail
    have G5 := two_set H2.out.2.2.2.1 H2.out.2.2.2.2 (ptr px) (.int .i64 0) (by omega)
    have K5 : Kept (fun k => k = w.heap.size ∨ k = w.heap.size + 1) w2 ((w2.setCell ⟨w.heap.size, 0, none⟩ (ptr px)).setCell ⟨w.heap.size + 1, 0, none⟩ (.int .i64 0)) :=
      ((Kept.refl (fun k => k = w.heap.size ∨ k = w.heap.size + 1) w2).setCell (p := ⟨w.heap.size, 0, none⟩) (fun _ => Or.inl rfl) _).setCell (p := ⟨w.heap.size + 1, 0, none⟩) (fun _ => Or.inr rfl) _
    generalize (w2.setCell ⟨w.heap.size, 0, none⟩ (ptr px)).setCell ⟨w.heap.size + 1, 0, none⟩ (.int .i64 0) = w6 at G5 K5
    refine leaves_cons (f := 113) (args := #[ptr w.heap.size, ptr (w.heap.size + 1)]) (by simp) (by simp [go_sem]) ?_
    refine (tried1_idle _ _ _).mono ?_
    rintro e u' w'' ⟨rfl, rfl, rfl⟩
    have cx : w''.cell? ⟨w.heap.size, 0, none⟩ = some (ptr px) := by simp [World.cell?, G5.1]
    have cy : w''.cell? ⟨w.heap.size + 1, 0, none⟩ = some (.int .i64 0) := by simp [World.cell?, G5.2]
    simp [Leaves, settle, results, Tryz.results66, go_sem, cx, cy]
    obtain ⟨hk2, hR, hat2, -⟩ := H2.out
    refine ⟨H1.out.2.2.1.andThen ((hk2.weaken (T := fun k => w.heap.size ≤ k) (fun k _ h => by have : W0.heap.size ≤ k := h; show w.heap.size ≤ k; omega)).trans (K5.weaken (T := fun k => w.heap.size ≤ k) (fun k _ h => by rcases h with h | h <;> (show w.heap.size ≤ k; omega)))) (fun i hi h => ?_), .inl ⟨px, b', set', rfl, hR, (hat2.kept K5 (fun k _ hk h => ?_)).mono (fun k _ hk => ?_)⟩⟩
    · have : w.heap.size ≤ i := h; omega
    · have : W0.heap.size ≤ k := hk; omega
    · show w.heap.size ≤ k
      have : W0.heap.size ≤ k := hk
      omega
  · have x2 := (hk2.block w.heap.size (by omega) (by show ¬ W0.heap.size ≤ w.heap.size; omega)).trans H1.out.2.2.2.1
    have y2 := (hk2.block (w.heap.size + 1) (by omega) (by show ¬ W0.heap.size ≤ w.heap.size + 1; omega)).trans H1.out.2.2.2.2
    have H2 := Lib.hid (And.intro hk2 hc)
    clear hk2 hc
    go_wp2_with fail
    refine leaves_cons (f := 113) (args := #[ptr w.heap.size, ptr (w.heap.size + 1)]) (by simp) (by simp [go_sem]) ?_
    refine (tried1_panicking w.heap.size (w.heap.size + 1) c (.pointer none) (.int .i64 0) [] w2 (by omega) (by simp [World.cell?, x2]) (by simp [World.cell?, y2]) (by simp [World.frozen?, x2]) (by simp [World.frozen?, y2])).mono ?_
    rintro e u' w3 ⟨rfl, rfl, c1, c2, k3⟩
    simp [Leaves, settle, results, Tryz.results66, go_sem, c1, c2]
    refine ⟨H1.out.2.2.1.andThen ((H2.out.1.weaken (T := fun k => w.heap.size ≤ k) (fun k _ h => by have : W0.heap.size ≤ k := h; show w.heap.size ≤ k; omega)).trans (k3.weaken (T := fun k => w.heap.size ≤ k) (fun k _ h => by rcases h with h | h <;> (show w.heap.size ≤ k; omega)))) (fun i hi h => ?_), .inr ⟨c, rfl, H2.out.2⟩⟩
    have : w.heap.size ≤ i := h
    omega
end Go.Proofs.YtlaahjcdbdipdaaGreatDoor
